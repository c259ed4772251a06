/- reader.pseudo. -/
import Derived.Test.YtecmccihldjicaaDoorReqE
namespace Go.Proofs.YtecmccihldjicaaDoor
open Go.RowKit Go.Maps
set_option linter.unusedVariables false
set_option linter.unusedSimpArgs false

set_option maxRecDepth 100000 in
set_option maxHeartbeats 4000000 in
theorem pseudo_Method (q b : Nat) (hqb : q ≠ b) (r : Rd) (L : List Fld) (hL : L.length ≤ 1000) (f : Fld) (hl : lightF f = true) (B : Nat) (W : World) (hq : B ≤ q) (hb : B ≤ b) (h : RdAt W q b r) (hs : SeenM W b L) (hn : f.name.data.toList = nMethod) :
    Calls Tryd.prog 24 #[.pointer (some ⟨q, 0, none⟩), f.val] W (PsPost q b r L f B W) := by
  obtain ⟨hl1, hl2⟩ := lightF_max hl
  have HB0 := Lib.hid ((Below.refl B W).alloc (Nat.le_trans hq (Nat.le_of_lt h.lt)) (.cells #[.string f.name, .string f.value, .bool f.never] 42))
  have H0 := Lib.hid ((Below.refl W.heap.size W).alloc (Nat.le_refl _) (.cells #[.string f.name, .string f.value, .bool f.never] 42))
  have HBOX := Lib.hid (heap_alloc_new W (.cells #[.string f.name, .string f.value, .bool f.never] 42))
  have hlt0 := h.lt
  have hlt1 := hs.lt
  have hr0 := h.step H0.out
  have hs0 : SeenM (W.alloc (.cells #[.string f.name, .string f.value, .bool f.never] 42)).drew b L := hs.below H0.out.drew
  have HLK := Lib.hid (hs0.look f.name (by unfold maxLen; omega))
  obtain ⟨w2, hput, hs2, hg2⟩ := hs0.put (by omega) f (by unfold maxLen; omega)
  have hr2 : RdAt w2 q b r := hr0.keep (hg2.block q (by show q < (W.alloc _).heap.size; simp; omega) (by simpa using hqb))
  have hbox2 := (hg2.block W.heap.size (by show W.heap.size < (W.alloc _).heap.size; simp) (by simp; omega)).trans HBOX.out
  have hsz2 : W.heap.size < w2.heap.size := Nat.lt_of_lt_of_le (by show W.heap.size < (W.alloc _).heap.size; simp) hg2.size
  have HB2 := Lib.hid (HB0.out.drew.grown hg2 (by show B ≤ (W.alloc _).heap.size; simp; omega) (fun k hk => by cases hk; exact hb))
  have HR2 := Lib.hid hr2
  have HR3 := Lib.hid (hr2.setM f.value)
  have HS3 := Lib.hid (hs2.set hqb 0 (.string f.value))
  have HB3 := Lib.hid (HB2.out.setCell (p := ⟨q, 0, none⟩) hq (.string f.value))
  have hbox3 : (w2.setCell ⟨q, 0, none⟩ (.string f.value)).heap[W.heap.size]? = _ := (Below.heap_setCell w2 ⟨q, 0, none⟩ (.string f.value) W.heap.size (by simp; omega)).trans hbox2
  have HSZ3 : Hid (B ≤ (w2.setCell ⟨q, 0, none⟩ (.string f.value)).heap.size) := Lib.hid (by have := HB3.out.size; omega)
  have HLK3 := Lib.hid (SeenM.look (w := (w2.setCell ⟨q, 0, none⟩ (.string f.value)).drew) HS3.out f.name (by unfold maxLen; omega))
  have HPUT := Lib.hid hput
  have HPO : Hid (psOk L f = (decide (cntN L f.name.data.toList = 0) && valS f.value.data.toList)) := Lib.hid (by unfold psOk psName; rw [hn]; rfl)
  have HPS : Hid (psSet r f = { r with m := f.value }) := Lib.hid (by unfold psSet; rw [hn]; rfl)
  have HC2 := Lib.hid (show cntN (L ++ [f]) f.name.data.toList = cntN L f.name.data.toList + 1 from by rw [cntN_snoc, if_pos rfl])
  rw [HC2.out] at HLK3
  clear hput hs2 hr2 hg2 hs0 HC2
  have hcle := cntN_le L f.name.data.toList
  have hw1 : IntKind.i64.wrap (((cntN L f.name.data.toList : Nat) : Int) + 1) = ((cntN L f.name.data.toList : Nat) : Int) + 1 := IntWalk.i64_in _ (by omega)
  have hlook := HLK.out
  have hput := HPUT.out
  have hlook3 := HLK3.out
  unfold PsPost
  rw [HPO.out, HPS.out]
  obtain ⟨nm, vl, nv⟩ := f
  unfold Fld.val
  have hnn := ba_mk _ _ hn
  simp only at hlook hput hlook3 hbox2 hbox3 HBOX hl1 hl2 HB0 HB2 HR3 HS3 HB3 hnn ⊢
  have HV := Lib.hid (fun W' => value_any vl W' (by unfold maxLen; omega))
  generalize cntN L nm.data.toList = c at hlook hput hw1 hcle hlook3 ⊢
  generalize valS vl.data.toList = bv at HV ⊢
  unfold nMethod at hnn
  simp only [List.toArray] at hnn
  obtain rfl := hnn
  have hbx := cell_of_row _ _ 0 _ _ _ HBOX.out
  have hby := cell_of_row _ _ 0 _ _ _ hbox2
  have hbz := cell_of_row _ _ 1 _ _ _ hbox2
  have hbu := cell_of_row _ _ 0 _ _ _ hbox3
  have hbv := cell_of_row _ _ 1 _ _ _ hbox3
  obtain ⟨⟨a0, a1, a2, a3⟩, a4, a5, a6, a7⟩ := hr0.cells
  obtain ⟨⟨b0, b1, b2, b3⟩, b4, b5, b6, b7⟩ := HR2.out.cells
  obtain ⟨⟨c0, c1, c2, c3⟩, c4, c5, c6, c7⟩ := HR3.out.cells
  have z2 := HR2.out.z 0
  clear hr0 hbox2 hbox3 h hs HLK HLK3 HPUT
  by_cases hc : c = 0
  · have HX := Lib.hid (show (decide (c = 0) && bv) = bv from by rw [decide_eq_true hc]; rfl)
    rw [HX.out]
    have q1 : (((c : Int) + 1) == 1) = true := by rw [hc]; rfl
    clear hc HX
    go_enter Tryd.func24, Tryd.ntmps24
    go_upto_region 1 with fail
    go_region
    go_upto_region 12 with fail
    cases bv
    all_goals
      go_region_with (first | (go_at_call 42; with_reducible refine (HV.out _).mono ?_; rintro e w5 ⟨rfl, hb5⟩))
      all_goals
        go_wp2_with fail
        go_ret
        have hd5 : Below (w2.setCell ⟨q, 0, none⟩ (.string vl)).heap.size (w2.setCell ⟨q, 0, none⟩ (.string vl)) w5 := ⟨hb5.os, hb5.tape, hb5.output, hb5.size, hb5.block⟩
        exact ⟨rfl, HR3.out.step hd5, HS3.out.below hd5, HB3.out.trans (hd5.mono HSZ3.out)⟩
  · have HX := Lib.hid (show (decide (c = 0) && bv) = false from by rw [decide_eq_false hc]; rfl)
    rw [HX.out]
    have q1 : (((c : Int) + 1) == 1) = false := beq_eq_false_iff_ne.2 (by omega)
    clear hc HX
    go_enter Tryd.func24, Tryd.ntmps24
    go_upto_region 1 with fail
    go_region
    go_upto_region 12 with fail
    go_region
    all_goals
      go_wp2_with fail
      go_ret
      exact ⟨rfl, HR3.out, HS3.out, HB3.out.drew⟩

set_option maxRecDepth 100000 in
set_option maxHeartbeats 4000000 in
theorem pseudo_Scheme (q b : Nat) (hqb : q ≠ b) (r : Rd) (L : List Fld) (hL : L.length ≤ 1000) (f : Fld) (hl : lightF f = true) (B : Nat) (W : World) (hq : B ≤ q) (hb : B ≤ b) (h : RdAt W q b r) (hs : SeenM W b L) (hn : f.name.data.toList = nScheme) :
    Calls Tryd.prog 24 #[.pointer (some ⟨q, 0, none⟩), f.val] W (PsPost q b r L f B W) := by
  obtain ⟨hl1, hl2⟩ := lightF_max hl
  have HB0 := Lib.hid ((Below.refl B W).alloc (Nat.le_trans hq (Nat.le_of_lt h.lt)) (.cells #[.string f.name, .string f.value, .bool f.never] 42))
  have H0 := Lib.hid ((Below.refl W.heap.size W).alloc (Nat.le_refl _) (.cells #[.string f.name, .string f.value, .bool f.never] 42))
  have HBOX := Lib.hid (heap_alloc_new W (.cells #[.string f.name, .string f.value, .bool f.never] 42))
  have hlt0 := h.lt
  have hlt1 := hs.lt
  have hr0 := h.step H0.out
  have hs0 : SeenM (W.alloc (.cells #[.string f.name, .string f.value, .bool f.never] 42)).drew b L := hs.below H0.out.drew
  have HLK := Lib.hid (hs0.look f.name (by unfold maxLen; omega))
  obtain ⟨w2, hput, hs2, hg2⟩ := hs0.put (by omega) f (by unfold maxLen; omega)
  have hr2 : RdAt w2 q b r := hr0.keep (hg2.block q (by show q < (W.alloc _).heap.size; simp; omega) (by simpa using hqb))
  have hbox2 := (hg2.block W.heap.size (by show W.heap.size < (W.alloc _).heap.size; simp) (by simp; omega)).trans HBOX.out
  have hsz2 : W.heap.size < w2.heap.size := Nat.lt_of_lt_of_le (by show W.heap.size < (W.alloc _).heap.size; simp) hg2.size
  have HB2 := Lib.hid (HB0.out.drew.grown hg2 (by show B ≤ (W.alloc _).heap.size; simp; omega) (fun k hk => by cases hk; exact hb))
  have HR2 := Lib.hid hr2
  have HR3 := Lib.hid (hr2.setS f.value)
  have HS3 := Lib.hid (hs2.set hqb 1 (.string f.value))
  have HB3 := Lib.hid (HB2.out.setCell (p := ⟨q, 1, none⟩) hq (.string f.value))
  have hbox3 : (w2.setCell ⟨q, 1, none⟩ (.string f.value)).heap[W.heap.size]? = _ := (Below.heap_setCell w2 ⟨q, 1, none⟩ (.string f.value) W.heap.size (by simp; omega)).trans hbox2
  have HSZ3 : Hid (B ≤ (w2.setCell ⟨q, 1, none⟩ (.string f.value)).heap.size) := Lib.hid (by have := HB3.out.size; omega)
  have HLK3 := Lib.hid (SeenM.look (w := (w2.setCell ⟨q, 1, none⟩ (.string f.value)).drew) HS3.out f.name (by unfold maxLen; omega))
  have HPUT := Lib.hid hput
  have HPO : Hid (psOk L f = (decide (cntN L f.name.data.toList = 0) && valS f.value.data.toList)) := Lib.hid (by unfold psOk psName; rw [hn]; rfl)
  have HPS : Hid (psSet r f = { r with s := f.value }) := Lib.hid (by unfold psSet; rw [hn]; rfl)
  have HC2 := Lib.hid (show cntN (L ++ [f]) f.name.data.toList = cntN L f.name.data.toList + 1 from by rw [cntN_snoc, if_pos rfl])
  rw [HC2.out] at HLK3
  clear hput hs2 hr2 hg2 hs0 HC2
  have hcle := cntN_le L f.name.data.toList
  have hw1 : IntKind.i64.wrap (((cntN L f.name.data.toList : Nat) : Int) + 1) = ((cntN L f.name.data.toList : Nat) : Int) + 1 := IntWalk.i64_in _ (by omega)
  have hlook := HLK.out
  have hput := HPUT.out
  have hlook3 := HLK3.out
  unfold PsPost
  rw [HPO.out, HPS.out]
  obtain ⟨nm, vl, nv⟩ := f
  unfold Fld.val
  have hnn := ba_mk _ _ hn
  simp only at hlook hput hlook3 hbox2 hbox3 HBOX hl1 hl2 HB0 HB2 HR3 HS3 HB3 hnn ⊢
  have HV := Lib.hid (fun W' => value_any vl W' (by unfold maxLen; omega))
  generalize cntN L nm.data.toList = c at hlook hput hw1 hcle hlook3 ⊢
  generalize valS vl.data.toList = bv at HV ⊢
  unfold nScheme at hnn
  simp only [List.toArray] at hnn
  obtain rfl := hnn
  have hbx := cell_of_row _ _ 0 _ _ _ HBOX.out
  have hby := cell_of_row _ _ 0 _ _ _ hbox2
  have hbz := cell_of_row _ _ 1 _ _ _ hbox2
  have hbu := cell_of_row _ _ 0 _ _ _ hbox3
  have hbv := cell_of_row _ _ 1 _ _ _ hbox3
  obtain ⟨⟨a0, a1, a2, a3⟩, a4, a5, a6, a7⟩ := hr0.cells
  obtain ⟨⟨b0, b1, b2, b3⟩, b4, b5, b6, b7⟩ := HR2.out.cells
  obtain ⟨⟨c0, c1, c2, c3⟩, c4, c5, c6, c7⟩ := HR3.out.cells
  have z2 := HR2.out.z 1
  clear hr0 hbox2 hbox3 h hs HLK HLK3 HPUT
  by_cases hc : c = 0
  · have HX := Lib.hid (show (decide (c = 0) && bv) = bv from by rw [decide_eq_true hc]; rfl)
    rw [HX.out]
    have q1 : (((c : Int) + 1) == 1) = true := by rw [hc]; rfl
    clear hc HX
    go_enter Tryd.func24, Tryd.ntmps24
    go_upto_region 1 with fail
    go_region
    go_upto_region 12 with fail
    cases bv
    all_goals
      go_region_with (first | (go_at_call 42; with_reducible refine (HV.out _).mono ?_; rintro e w5 ⟨rfl, hb5⟩))
      all_goals
        go_wp2_with fail
        go_ret
        have hd5 : Below (w2.setCell ⟨q, 1, none⟩ (.string vl)).heap.size (w2.setCell ⟨q, 1, none⟩ (.string vl)) w5 := ⟨hb5.os, hb5.tape, hb5.output, hb5.size, hb5.block⟩
        exact ⟨rfl, HR3.out.step hd5, HS3.out.below hd5, HB3.out.trans (hd5.mono HSZ3.out)⟩
  · have HX := Lib.hid (show (decide (c = 0) && bv) = false from by rw [decide_eq_false hc]; rfl)
    rw [HX.out]
    have q1 : (((c : Int) + 1) == 1) = false := beq_eq_false_iff_ne.2 (by omega)
    clear hc HX
    go_enter Tryd.func24, Tryd.ntmps24
    go_upto_region 1 with fail
    go_region
    go_upto_region 12 with fail
    go_region
    all_goals
      go_wp2_with fail
      go_ret
      exact ⟨rfl, HR3.out, HS3.out, HB3.out.drew⟩

set_option maxRecDepth 100000 in
set_option maxHeartbeats 4000000 in
theorem pseudo_Path (q b : Nat) (hqb : q ≠ b) (r : Rd) (L : List Fld) (hL : L.length ≤ 1000) (f : Fld) (hl : lightF f = true) (B : Nat) (W : World) (hq : B ≤ q) (hb : B ≤ b) (h : RdAt W q b r) (hs : SeenM W b L) (hn : f.name.data.toList = nPath) :
    Calls Tryd.prog 24 #[.pointer (some ⟨q, 0, none⟩), f.val] W (PsPost q b r L f B W) := by
  obtain ⟨hl1, hl2⟩ := lightF_max hl
  have HB0 := Lib.hid ((Below.refl B W).alloc (Nat.le_trans hq (Nat.le_of_lt h.lt)) (.cells #[.string f.name, .string f.value, .bool f.never] 42))
  have H0 := Lib.hid ((Below.refl W.heap.size W).alloc (Nat.le_refl _) (.cells #[.string f.name, .string f.value, .bool f.never] 42))
  have HBOX := Lib.hid (heap_alloc_new W (.cells #[.string f.name, .string f.value, .bool f.never] 42))
  have hlt0 := h.lt
  have hlt1 := hs.lt
  have hr0 := h.step H0.out
  have hs0 : SeenM (W.alloc (.cells #[.string f.name, .string f.value, .bool f.never] 42)).drew b L := hs.below H0.out.drew
  have HLK := Lib.hid (hs0.look f.name (by unfold maxLen; omega))
  obtain ⟨w2, hput, hs2, hg2⟩ := hs0.put (by omega) f (by unfold maxLen; omega)
  have hr2 : RdAt w2 q b r := hr0.keep (hg2.block q (by show q < (W.alloc _).heap.size; simp; omega) (by simpa using hqb))
  have hbox2 := (hg2.block W.heap.size (by show W.heap.size < (W.alloc _).heap.size; simp) (by simp; omega)).trans HBOX.out
  have hsz2 : W.heap.size < w2.heap.size := Nat.lt_of_lt_of_le (by show W.heap.size < (W.alloc _).heap.size; simp) hg2.size
  have HB2 := Lib.hid (HB0.out.drew.grown hg2 (by show B ≤ (W.alloc _).heap.size; simp; omega) (fun k hk => by cases hk; exact hb))
  have HR2 := Lib.hid hr2
  have HR3 := Lib.hid (hr2.setP f.value)
  have HS3 := Lib.hid (hs2.set hqb 2 (.string f.value))
  have HB3 := Lib.hid (HB2.out.setCell (p := ⟨q, 2, none⟩) hq (.string f.value))
  have hbox3 : (w2.setCell ⟨q, 2, none⟩ (.string f.value)).heap[W.heap.size]? = _ := (Below.heap_setCell w2 ⟨q, 2, none⟩ (.string f.value) W.heap.size (by simp; omega)).trans hbox2
  have HSZ3 : Hid (B ≤ (w2.setCell ⟨q, 2, none⟩ (.string f.value)).heap.size) := Lib.hid (by have := HB3.out.size; omega)
  have HLK3 := Lib.hid (SeenM.look (w := (w2.setCell ⟨q, 2, none⟩ (.string f.value)).drew) HS3.out f.name (by unfold maxLen; omega))
  have HPUT := Lib.hid hput
  have HPO : Hid (psOk L f = (decide (cntN L f.name.data.toList = 0) && valS f.value.data.toList)) := Lib.hid (by unfold psOk psName; rw [hn]; rfl)
  have HPS : Hid (psSet r f = { r with p := f.value }) := Lib.hid (by unfold psSet; rw [hn]; rfl)
  have HC2 := Lib.hid (show cntN (L ++ [f]) f.name.data.toList = cntN L f.name.data.toList + 1 from by rw [cntN_snoc, if_pos rfl])
  rw [HC2.out] at HLK3
  clear hput hs2 hr2 hg2 hs0 HC2
  have hcle := cntN_le L f.name.data.toList
  have hw1 : IntKind.i64.wrap (((cntN L f.name.data.toList : Nat) : Int) + 1) = ((cntN L f.name.data.toList : Nat) : Int) + 1 := IntWalk.i64_in _ (by omega)
  have hlook := HLK.out
  have hput := HPUT.out
  have hlook3 := HLK3.out
  unfold PsPost
  rw [HPO.out, HPS.out]
  obtain ⟨nm, vl, nv⟩ := f
  unfold Fld.val
  have hnn := ba_mk _ _ hn
  simp only at hlook hput hlook3 hbox2 hbox3 HBOX hl1 hl2 HB0 HB2 HR3 HS3 HB3 hnn ⊢
  have HV := Lib.hid (fun W' => value_any vl W' (by unfold maxLen; omega))
  generalize cntN L nm.data.toList = c at hlook hput hw1 hcle hlook3 ⊢
  generalize valS vl.data.toList = bv at HV ⊢
  unfold nPath at hnn
  simp only [List.toArray] at hnn
  obtain rfl := hnn
  have hbx := cell_of_row _ _ 0 _ _ _ HBOX.out
  have hby := cell_of_row _ _ 0 _ _ _ hbox2
  have hbz := cell_of_row _ _ 1 _ _ _ hbox2
  have hbu := cell_of_row _ _ 0 _ _ _ hbox3
  have hbv := cell_of_row _ _ 1 _ _ _ hbox3
  obtain ⟨⟨a0, a1, a2, a3⟩, a4, a5, a6, a7⟩ := hr0.cells
  obtain ⟨⟨b0, b1, b2, b3⟩, b4, b5, b6, b7⟩ := HR2.out.cells
  obtain ⟨⟨c0, c1, c2, c3⟩, c4, c5, c6, c7⟩ := HR3.out.cells
  have z2 := HR2.out.z 2
  clear hr0 hbox2 hbox3 h hs HLK HLK3 HPUT
  by_cases hc : c = 0
  · have HX := Lib.hid (show (decide (c = 0) && bv) = bv from by rw [decide_eq_true hc]; rfl)
    rw [HX.out]
    have q1 : (((c : Int) + 1) == 1) = true := by rw [hc]; rfl
    clear hc HX
    go_enter Tryd.func24, Tryd.ntmps24
    go_upto_region 1 with fail
    go_region
    go_upto_region 12 with fail
    cases bv
    all_goals
      go_region_with (first | (go_at_call 42; with_reducible refine (HV.out _).mono ?_; rintro e w5 ⟨rfl, hb5⟩))
      all_goals
        go_wp2_with fail
        go_ret
        have hd5 : Below (w2.setCell ⟨q, 2, none⟩ (.string vl)).heap.size (w2.setCell ⟨q, 2, none⟩ (.string vl)) w5 := ⟨hb5.os, hb5.tape, hb5.output, hb5.size, hb5.block⟩
        exact ⟨rfl, HR3.out.step hd5, HS3.out.below hd5, HB3.out.trans (hd5.mono HSZ3.out)⟩
  · have HX := Lib.hid (show (decide (c = 0) && bv) = false from by rw [decide_eq_false hc]; rfl)
    rw [HX.out]
    have q1 : (((c : Int) + 1) == 1) = false := beq_eq_false_iff_ne.2 (by omega)
    clear hc HX
    go_enter Tryd.func24, Tryd.ntmps24
    go_upto_region 1 with fail
    go_region
    go_upto_region 12 with fail
    go_region
    all_goals
      go_wp2_with fail
      go_ret
      exact ⟨rfl, HR3.out, HS3.out, HB3.out.drew⟩

set_option maxRecDepth 100000 in
set_option maxHeartbeats 4000000 in
theorem pseudo_Auth (q b : Nat) (hqb : q ≠ b) (r : Rd) (L : List Fld) (hL : L.length ≤ 1000) (f : Fld) (hl : lightF f = true) (B : Nat) (W : World) (hq : B ≤ q) (hb : B ≤ b) (h : RdAt W q b r) (hs : SeenM W b L) (hn : f.name.data.toList = nAuth) :
    Calls Tryd.prog 24 #[.pointer (some ⟨q, 0, none⟩), f.val] W (PsPost q b r L f B W) := by
  obtain ⟨hl1, hl2⟩ := lightF_max hl
  have HB0 := Lib.hid ((Below.refl B W).alloc (Nat.le_trans hq (Nat.le_of_lt h.lt)) (.cells #[.string f.name, .string f.value, .bool f.never] 42))
  have H0 := Lib.hid ((Below.refl W.heap.size W).alloc (Nat.le_refl _) (.cells #[.string f.name, .string f.value, .bool f.never] 42))
  have HBOX := Lib.hid (heap_alloc_new W (.cells #[.string f.name, .string f.value, .bool f.never] 42))
  have hlt0 := h.lt
  have hlt1 := hs.lt
  have hr0 := h.step H0.out
  have hs0 : SeenM (W.alloc (.cells #[.string f.name, .string f.value, .bool f.never] 42)).drew b L := hs.below H0.out.drew
  have HLK := Lib.hid (hs0.look f.name (by unfold maxLen; omega))
  obtain ⟨w2, hput, hs2, hg2⟩ := hs0.put (by omega) f (by unfold maxLen; omega)
  have hr2 : RdAt w2 q b r := hr0.keep (hg2.block q (by show q < (W.alloc _).heap.size; simp; omega) (by simpa using hqb))
  have hbox2 := (hg2.block W.heap.size (by show W.heap.size < (W.alloc _).heap.size; simp) (by simp; omega)).trans HBOX.out
  have hsz2 : W.heap.size < w2.heap.size := Nat.lt_of_lt_of_le (by show W.heap.size < (W.alloc _).heap.size; simp) hg2.size
  have HB2 := Lib.hid (HB0.out.drew.grown hg2 (by show B ≤ (W.alloc _).heap.size; simp; omega) (fun k hk => by cases hk; exact hb))
  have HR2 := Lib.hid hr2
  have HR3 := Lib.hid (hr2.setH f.value)
  have HS3 := Lib.hid (hs2.set hqb 3 (.string f.value))
  have HB3 := Lib.hid (HB2.out.setCell (p := ⟨q, 3, none⟩) hq (.string f.value))
  have hbox3 : (w2.setCell ⟨q, 3, none⟩ (.string f.value)).heap[W.heap.size]? = _ := (Below.heap_setCell w2 ⟨q, 3, none⟩ (.string f.value) W.heap.size (by simp; omega)).trans hbox2
  have HSZ3 : Hid (B ≤ (w2.setCell ⟨q, 3, none⟩ (.string f.value)).heap.size) := Lib.hid (by have := HB3.out.size; omega)
  have HLK3 := Lib.hid (SeenM.look (w := (w2.setCell ⟨q, 3, none⟩ (.string f.value)).drew) HS3.out f.name (by unfold maxLen; omega))
  have HPUT := Lib.hid hput
  have HPO : Hid (psOk L f = (decide (cntN L f.name.data.toList = 0) && valS f.value.data.toList)) := Lib.hid (by unfold psOk psName; rw [hn]; rfl)
  have HPS : Hid (psSet r f = { r with h := f.value }) := Lib.hid (by unfold psSet; rw [hn]; rfl)
  have HC2 := Lib.hid (show cntN (L ++ [f]) f.name.data.toList = cntN L f.name.data.toList + 1 from by rw [cntN_snoc, if_pos rfl])
  rw [HC2.out] at HLK3
  clear hput hs2 hr2 hg2 hs0 HC2
  have hcle := cntN_le L f.name.data.toList
  have hw1 : IntKind.i64.wrap (((cntN L f.name.data.toList : Nat) : Int) + 1) = ((cntN L f.name.data.toList : Nat) : Int) + 1 := IntWalk.i64_in _ (by omega)
  have hlook := HLK.out
  have hput := HPUT.out
  have hlook3 := HLK3.out
  unfold PsPost
  rw [HPO.out, HPS.out]
  obtain ⟨nm, vl, nv⟩ := f
  unfold Fld.val
  have hnn := ba_mk _ _ hn
  simp only at hlook hput hlook3 hbox2 hbox3 HBOX hl1 hl2 HB0 HB2 HR3 HS3 HB3 hnn ⊢
  have HV := Lib.hid (fun W' => value_any vl W' (by unfold maxLen; omega))
  generalize cntN L nm.data.toList = c at hlook hput hw1 hcle hlook3 ⊢
  generalize valS vl.data.toList = bv at HV ⊢
  unfold nAuth at hnn
  simp only [List.toArray] at hnn
  obtain rfl := hnn
  have hbx := cell_of_row _ _ 0 _ _ _ HBOX.out
  have hby := cell_of_row _ _ 0 _ _ _ hbox2
  have hbz := cell_of_row _ _ 1 _ _ _ hbox2
  have hbu := cell_of_row _ _ 0 _ _ _ hbox3
  have hbv := cell_of_row _ _ 1 _ _ _ hbox3
  obtain ⟨⟨a0, a1, a2, a3⟩, a4, a5, a6, a7⟩ := hr0.cells
  obtain ⟨⟨b0, b1, b2, b3⟩, b4, b5, b6, b7⟩ := HR2.out.cells
  obtain ⟨⟨c0, c1, c2, c3⟩, c4, c5, c6, c7⟩ := HR3.out.cells
  have z2 := HR2.out.z 3
  clear hr0 hbox2 hbox3 h hs HLK HLK3 HPUT
  by_cases hc : c = 0
  · have HX := Lib.hid (show (decide (c = 0) && bv) = bv from by rw [decide_eq_true hc]; rfl)
    rw [HX.out]
    have q1 : (((c : Int) + 1) == 1) = true := by rw [hc]; rfl
    clear hc HX
    go_enter Tryd.func24, Tryd.ntmps24
    go_upto_region 1 with fail
    go_region
    go_upto_region 12 with fail
    cases bv
    all_goals
      go_region_with (first | (go_at_call 42; with_reducible refine (HV.out _).mono ?_; rintro e w5 ⟨rfl, hb5⟩))
      all_goals
        go_wp2_with fail
        go_ret
        have hd5 : Below (w2.setCell ⟨q, 3, none⟩ (.string vl)).heap.size (w2.setCell ⟨q, 3, none⟩ (.string vl)) w5 := ⟨hb5.os, hb5.tape, hb5.output, hb5.size, hb5.block⟩
        exact ⟨rfl, HR3.out.step hd5, HS3.out.below hd5, HB3.out.trans (hd5.mono HSZ3.out)⟩
  · have HX := Lib.hid (show (decide (c = 0) && bv) = false from by rw [decide_eq_false hc]; rfl)
    rw [HX.out]
    have q1 : (((c : Int) + 1) == 1) = false := beq_eq_false_iff_ne.2 (by omega)
    clear hc HX
    go_enter Tryd.func24, Tryd.ntmps24
    go_upto_region 1 with fail
    go_region
    go_upto_region 12 with fail
    go_region
    all_goals
      go_wp2_with fail
      go_ret
      exact ⟨rfl, HR3.out, HS3.out, HB3.out.drew⟩

theorem pseudo_any (q b : Nat) (hqb : q ≠ b) (r : Rd) (L : List Fld) (hL : L.length ≤ 1000) (f : Fld) (hl : lightF f = true) (B : Nat) (W : World) (hq : B ≤ q) (hb : B ≤ b) (h : RdAt W q b r) (hs : SeenM W b L) :
    Calls Tryd.prog 24 #[.pointer (some ⟨q, 0, none⟩), f.val] W (PsPost q b r L f B W) := by
  cases hn : psName f.name.data.toList
  · exact pseudo_other q b hqb r L hL f hl B W hq hb h hs hn
  · simp only [psName, Bool.or_eq_true, decide_eq_true_eq] at hn
    rcases hn with ((hn | hn) | hn) | hn
    · exact pseudo_Method q b hqb r L hL f hl B W hq hb h hs hn
    · exact pseudo_Scheme q b hqb r L hL f hl B W hq hb h hs hn
    · exact pseudo_Path q b hqb r L hL f hl B W hq hb h hs hn
    · exact pseudo_Auth q b hqb r L hL f hl B W hq hb h hs hn
end Go.Proofs.YtecmccihldjicaaDoor
