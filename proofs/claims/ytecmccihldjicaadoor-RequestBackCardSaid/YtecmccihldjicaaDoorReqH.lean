/- reader.plain: host, priority, content-length. -/
import Derived.Test.YtecmccihldjicaaDoorReqG
namespace Go.Proofs.YtecmccihldjicaaDoor
open Go.RowKit Go.Maps
set_option linter.unusedVariables false
set_option linter.unusedSimpArgs false

set_option maxRecDepth 100000 in
set_option maxHeartbeats 4000000 in
theorem rplain_Host (q b : Nat) (hqb : q ≠ b) (r : Rd) (L : List Fld) (hL : L.length ≤ 1000) (f : Fld) (hl : lightF f = true) (B : Nat) (W : World) (hq : B ≤ q) (hb : B ≤ b) (h : RdAt W q b r) (hs : SeenM W b L) (hp : plainB f true = true)
    (hM : ∀ W' : World, Below B W W' → MaxC W') (hn : f.name.data.toList = nHost) :
    Calls Tryd.prog 25 #[.pointer (some ⟨q, 0, none⟩), f.val] W (PlPost q b r L f B W) := by
  obtain ⟨hl1, hl2⟩ := lightF_max hl
  have HP := Lib.hid (fun W' => plain_any f true hl W')
  rw [hp] at HP
  unfold PlPost
  have HPO : Hid (plOk r L f = true) := Lib.hid (by unfold plOk; rw [hp, hn]; rfl)
  have HPS : Hid (plSet r L f = (if cntN L nHost = 0 then { r with host := f.value } else r)) := Lib.hid (by unfold plSet; rw [hn]; rfl)
  rw [HPO.out, HPS.out]
  clear HPO HPS
  obtain ⟨nm, vl, nv⟩ := f
  unfold Fld.val at HP ⊢
  have hnn := ba_mk _ _ hn
  simp only at HP hl1 hl2 hnn hn ⊢
  obtain ⟨c, hc⟩ : ∃ c, cntN L nm.data.toList = c := ⟨_, rfl⟩
  rw [← hn, hc]
  unfold nHost at hnn
  simp only [List.toArray] at hnn
  obtain rfl := hnn
  have hcle := cntN_le L (ByteArray.mk #[104, 111, 115, 116]).data.toList
  have hc' : cntN L (ByteArray.mk #[104, 111, 115, 116]).data.toList = c := hc
  rw [hc'] at hcle
  have hw1 : IntKind.i64.wrap ((c : Int) + 1) = (c : Int) + 1 := IntWalk.i64_in _ (by omega)
  have HM := Lib.hid (mid q b hqb r L hL (ByteArray.mk #[104, 111, 115, 116]) vl nv hl1 B W hq hb h hs c hc)
  clear h hs hc hc' hn

  by_cases h0 : c = 0
  · have q1 : (((c : Int) + 1) == 1) = true := by rw [h0]; rfl
    have HX : Hid ((if c = 0 then ({ r with host := vl } : Rd) else r) = { r with host := vl }) := Lib.hid (if_pos h0)
    rw [HX.out]
    clear h0 HX
    go_enter Tryd.func25, Tryd.ntmps25
    go_upto_region 3 with (first | (go_at_call 34; with_reducible refine (HP.out _).mono ?_; rintro e w1 ⟨rfl, hb1⟩))
    obtain ⟨w2, M⟩ := HM.out w1 hb1
    have k1 := M.look
    have k2 := M.put
    have k3 := M.look2
    have hbx := cell_of_row _ _ 0 _ _ _ M.box1
    have hby := cell_of_row _ _ 0 _ _ _ M.box2
    have hbz := cell_of_row _ _ 1 _ _ _ M.box2
    obtain ⟨⟨a0, a1, a2, a3⟩, a4, a5, a6, a7⟩ := M.rd1.cells
    obtain ⟨⟨b0, b1, b2, b3⟩, b4, b5, b6, b7⟩ := M.rd2.cells
    have hz := M.rd2.z 7
    have HMM := Lib.hid M
    clear M hb1
    go_region
    go_upto_region 4 with fail
    go_region
    all_goals
      go_wp2_with fail
      go_ret
      exact ⟨rfl, (fun _ => ⟨HMM.out.rd2.setHost vl, HMM.out.seen.set hqb 7 (.string vl)⟩), (HMM.out.below.drew.setCell (p := ⟨q, 7, none⟩) hq (.string vl))⟩
  · have q1 : (((c : Int) + 1) == 1) = false := beq_eq_false_iff_ne.2 (by omega)
    have HX : Hid ((if c = 0 then ({ r with host := vl } : Rd) else r) = r) := Lib.hid (if_neg h0)
    rw [HX.out]
    clear h0 HX
    go_enter Tryd.func25, Tryd.ntmps25
    go_upto_region 3 with (first | (go_at_call 34; with_reducible refine (HP.out _).mono ?_; rintro e w1 ⟨rfl, hb1⟩))
    obtain ⟨w2, M⟩ := HM.out w1 hb1
    have k1 := M.look
    have k2 := M.put
    have k3 := M.look2
    have hbx := cell_of_row _ _ 0 _ _ _ M.box1
    have hby := cell_of_row _ _ 0 _ _ _ M.box2
    have hbz := cell_of_row _ _ 1 _ _ _ M.box2
    obtain ⟨⟨a0, a1, a2, a3⟩, a4, a5, a6, a7⟩ := M.rd1.cells
    obtain ⟨⟨b0, b1, b2, b3⟩, b4, b5, b6, b7⟩ := M.rd2.cells
    have hz := M.rd2.z 7
    have HMM := Lib.hid M
    clear M hb1
    go_region
    go_upto_region 4 with fail
    go_region
    all_goals
      go_wp2_with fail
      go_ret
      exact ⟨rfl, (fun _ => ⟨HMM.out.rd2, HMM.out.seen⟩), HMM.out.below.drew⟩
set_option maxRecDepth 100000 in
set_option maxHeartbeats 4000000 in
theorem rplain_Prio (q b : Nat) (hqb : q ≠ b) (r : Rd) (L : List Fld) (hL : L.length ≤ 1000) (f : Fld) (hl : lightF f = true) (B : Nat) (W : World) (hq : B ≤ q) (hb : B ≤ b) (h : RdAt W q b r) (hs : SeenM W b L) (hp : plainB f true = true)
    (hM : ∀ W' : World, Below B W W' → MaxC W') (hn : f.name.data.toList = nPrio) :
    Calls Tryd.prog 25 #[.pointer (some ⟨q, 0, none⟩), f.val] W (PlPost q b r L f B W) := by
  obtain ⟨hl1, hl2⟩ := lightF_max hl
  have HP := Lib.hid (fun W' => plain_any f true hl W')
  rw [hp] at HP
  unfold PlPost
  have HPO : Hid (plOk r L f = true) := Lib.hid (by unfold plOk; rw [hp, hn]; rfl)
  have HPS : Hid (plSet r L f = (if cntN L nPrio = 0 then { r with rank := rankS f.value.data.toList } else r)) := Lib.hid (by unfold plSet; rw [hn]; rfl)
  rw [HPO.out, HPS.out]
  clear HPO HPS
  obtain ⟨nm, vl, nv⟩ := f
  unfold Fld.val at HP ⊢
  have hnn := ba_mk _ _ hn
  simp only at HP hl1 hl2 hnn hn ⊢
  obtain ⟨c, hc⟩ : ∃ c, cntN L nm.data.toList = c := ⟨_, rfl⟩
  rw [← hn, hc]
  unfold nPrio at hnn
  simp only [List.toArray] at hnn
  obtain rfl := hnn
  have hcle := cntN_le L (ByteArray.mk #[112, 114, 105, 111, 114, 105, 116, 121]).data.toList
  have hc' : cntN L (ByteArray.mk #[112, 114, 105, 111, 114, 105, 116, 121]).data.toList = c := hc
  rw [hc'] at hcle
  have hw1 : IntKind.i64.wrap ((c : Int) + 1) = (c : Int) + 1 := IntWalk.i64_in _ (by omega)
  have HM := Lib.hid (mid q b hqb r L hL (ByteArray.mk #[112, 114, 105, 111, 114, 105, 116, 121]) vl nv hl1 B W hq hb h hs c hc)
  clear h hs hc hc' hn

  by_cases h0 : c = 0
  · have q1 : (((c : Int) + 1) == 1) = true := by rw [h0]; rfl
    have HX : Hid ((if c = 0 then ({ r with rank := rankS vl.data.toList } : Rd) else r) = { r with rank := rankS vl.data.toList }) := Lib.hid (if_pos h0)
    rw [HX.out]
    clear h0 HX
    go_enter Tryd.func25, Tryd.ntmps25
    go_upto_region 3 with (first | (go_at_call 34; with_reducible refine (HP.out _).mono ?_; rintro e w1 ⟨rfl, hb1⟩))
    obtain ⟨w2, M⟩ := HM.out w1 hb1
    have k1 := M.look
    have k2 := M.put
    have k3 := M.look2
    have hbx := cell_of_row _ _ 0 _ _ _ M.box1
    have hby := cell_of_row _ _ 0 _ _ _ M.box2
    have hbz := cell_of_row _ _ 1 _ _ _ M.box2
    obtain ⟨⟨a0, a1, a2, a3⟩, a4, a5, a6, a7⟩ := M.rd1.cells
    obtain ⟨⟨b0, b1, b2, b3⟩, b4, b5, b6, b7⟩ := M.rd2.cells
    have hz := M.rd2.z 5
    have HMM := Lib.hid M
    clear M hb1
    go_region
    go_upto_region 4 with fail
    go_region
    all_goals
      go_wp2_with (first | (go_at_call 18; refine (rank_any vl (by omega) _ (hM _ HMM.out.below.drew)).mono ?_; rintro e w5 ⟨rfl, hb5⟩; have r5 := HMM.out.rd2.step (W' := w5) ⟨hb5.os, hb5.tape, hb5.output, hb5.size, hb5.block⟩; obtain ⟨⟨d0, d1, d2, d3⟩, d4, d5, d6, d7⟩ := r5.cells; have z5 := r5.z 5; have HR5 := Lib.hid r5; have H5 := Lib.hid hb5; clear r5 hb5))
      go_ret
      have hd5 : Below w2.heap.size w2 w5 := ⟨H5.out.os, H5.out.tape, H5.out.output, H5.out.size, H5.out.block⟩
      exact ⟨rfl, (fun _ => ⟨HR5.out.setRank (rankS vl.data.toList), (HMM.out.seen.below hd5).set hqb 5 (.int .i64 (rankS vl.data.toList))⟩), ((HMM.out.below.trans (hd5.mono HMM.out.size)).setCell (p := ⟨q, 5, none⟩) hq (.int .i64 (rankS vl.data.toList)))⟩
  · have q1 : (((c : Int) + 1) == 1) = false := beq_eq_false_iff_ne.2 (by omega)
    have HX : Hid ((if c = 0 then ({ r with rank := rankS vl.data.toList } : Rd) else r) = r) := Lib.hid (if_neg h0)
    rw [HX.out]
    clear h0 HX
    go_enter Tryd.func25, Tryd.ntmps25
    go_upto_region 3 with (first | (go_at_call 34; with_reducible refine (HP.out _).mono ?_; rintro e w1 ⟨rfl, hb1⟩))
    obtain ⟨w2, M⟩ := HM.out w1 hb1
    have k1 := M.look
    have k2 := M.put
    have k3 := M.look2
    have hbx := cell_of_row _ _ 0 _ _ _ M.box1
    have hby := cell_of_row _ _ 0 _ _ _ M.box2
    have hbz := cell_of_row _ _ 1 _ _ _ M.box2
    obtain ⟨⟨a0, a1, a2, a3⟩, a4, a5, a6, a7⟩ := M.rd1.cells
    obtain ⟨⟨b0, b1, b2, b3⟩, b4, b5, b6, b7⟩ := M.rd2.cells
    have hz := M.rd2.z 5
    have HMM := Lib.hid M
    clear M hb1
    go_region
    go_upto_region 4 with fail
    go_region
    all_goals
      go_wp2_with fail
      go_ret
      exact ⟨rfl, (fun _ => ⟨HMM.out.rd2, HMM.out.seen⟩), HMM.out.below.drew⟩
set_option maxRecDepth 100000 in
set_option maxHeartbeats 4000000 in
theorem rplain_Len (q b : Nat) (hqb : q ≠ b) (r : Rd) (L : List Fld) (hL : L.length ≤ 1000) (f : Fld) (hl : lightF f = true) (B : Nat) (W : World) (hq : B ≤ q) (hb : B ≤ b) (h : RdAt W q b r) (hs : SeenM W b L) (hp : plainB f true = true)
    (hM : ∀ W' : World, Below B W W' → MaxC W') (hn : f.name.data.toList = nLen) :
    Calls Tryd.prog 25 #[.pointer (some ⟨q, 0, none⟩), f.val] W (PlPost q b r L f B W) := by
  obtain ⟨hl1, hl2⟩ := lightF_max hl
  have HP := Lib.hid (fun W' => plain_any f true hl W')
  rw [hp] at HP
  unfold PlPost
  have HPO : Hid (plOk r L f = (numOk f.value.data.toList && (decide (cntN L nLen = 0) || decide (numI f.value.data.toList = r.len)))) := Lib.hid (by unfold plOk; rw [hp, hn]; rfl)
  have HPS : Hid (plSet r L f = { r with len := numI f.value.data.toList }) := Lib.hid (by unfold plSet; rw [hn]; rfl)
  rw [HPO.out, HPS.out]
  clear HPO HPS
  obtain ⟨nm, vl, nv⟩ := f
  unfold Fld.val at HP ⊢
  have hnn := ba_mk _ _ hn
  simp only at HP hl1 hl2 hnn hn ⊢
  obtain ⟨c, hc⟩ : ∃ c, cntN L nm.data.toList = c := ⟨_, rfl⟩
  rw [← hn, hc]
  unfold nLen at hnn
  simp only [List.toArray] at hnn
  obtain rfl := hnn
  have hcle := cntN_le L (ByteArray.mk #[99, 111, 110, 116, 101, 110, 116, 45, 108, 101, 110, 103, 116, 104]).data.toList
  have hc' : cntN L (ByteArray.mk #[99, 111, 110, 116, 101, 110, 116, 45, 108, 101, 110, 103, 116, 104]).data.toList = c := hc
  rw [hc'] at hcle
  have hw1 : IntKind.i64.wrap ((c : Int) + 1) = (c : Int) + 1 := IntWalk.i64_in _ (by omega)
  have HM := Lib.hid (mid q b hqb r L hL (ByteArray.mk #[99, 111, 110, 116, 101, 110, 116, 45, 108, 101, 110, 103, 116, 104]) vl nv hl1 B W hq hb h hs c hc)
  clear h hs hc hc' hn
  have HN := Lib.hid (fun W' => reqNumber vl W' (by unfold maxLen; omega))
  obtain ⟨I, hI⟩ : ∃ I, numI vl.data.toList = I := ⟨_, rfl⟩
  obtain ⟨ok, hok⟩ : ∃ ok, numOk vl.data.toList = ok := ⟨_, rfl⟩
  rw [hI, hok] at HN ⊢
  clear hI hok
  cases ok
  · have HX : Hid ((false && (decide (c = 0) || decide (I = r.len))) = false) := Lib.hid rfl
    rw [HX.out]
    clear HX
    by_cases h0 : c = 0
    · have q1 : (((c : Int) + 1) == 1) = true := by rw [h0]; rfl
      clear h0
      go_enter Tryd.func25, Tryd.ntmps25
      go_upto_region 3 with (first | (go_at_call 34; with_reducible refine (HP.out _).mono ?_; rintro e w1 ⟨rfl, hb1⟩))
      obtain ⟨w2, M⟩ := HM.out w1 hb1
      have k1 := M.look
      have k2 := M.put
      have k3 := M.look2
      have hbx := cell_of_row _ _ 0 _ _ _ M.box1
      have hby := cell_of_row _ _ 0 _ _ _ M.box2
      have hbz := cell_of_row _ _ 1 _ _ _ M.box2
      obtain ⟨⟨a0, a1, a2, a3⟩, a4, a5, a6, a7⟩ := M.rd1.cells
      obtain ⟨⟨b0, b1, b2, b3⟩, b4, b5, b6, b7⟩ := M.rd2.cells
      have hz := M.rd2.z 4
      have HMM := Lib.hid M
      clear M hb1
      go_region
      go_upto_region 4 with fail
      go_region
      all_goals
        go_wp2_with (first | (go_at_call 14; refine (HN.out _).mono ?_; rintro e w5 ⟨rfl, hb5⟩; have r5 := HMM.out.rd2.step (W' := w5) ⟨hb5.os, hb5.tape, hb5.output, hb5.size, hb5.block⟩; obtain ⟨⟨d0, d1, d2, d3⟩, d4, d5, d6, d7⟩ := r5.cells; have z5 := r5.z 4; have HR5 := Lib.hid r5; have H5 := Lib.hid hb5; clear r5 hb5))
        go_ret
        have hd5 : Below w2.heap.size w2 w5 := ⟨H5.out.os, H5.out.tape, H5.out.output, H5.out.size, H5.out.block⟩
        exact ⟨rfl, (fun h => nomatch h), (HMM.out.below.trans (hd5.mono HMM.out.size))⟩
    · have q1 : (((c : Int) + 1) == 1) = false := beq_eq_false_iff_ne.2 (by omega)
      clear h0
      go_enter Tryd.func25, Tryd.ntmps25
      go_upto_region 3 with (first | (go_at_call 34; with_reducible refine (HP.out _).mono ?_; rintro e w1 ⟨rfl, hb1⟩))
      obtain ⟨w2, M⟩ := HM.out w1 hb1
      have k1 := M.look
      have k2 := M.put
      have k3 := M.look2
      have hbx := cell_of_row _ _ 0 _ _ _ M.box1
      have hby := cell_of_row _ _ 0 _ _ _ M.box2
      have hbz := cell_of_row _ _ 1 _ _ _ M.box2
      obtain ⟨⟨a0, a1, a2, a3⟩, a4, a5, a6, a7⟩ := M.rd1.cells
      obtain ⟨⟨b0, b1, b2, b3⟩, b4, b5, b6, b7⟩ := M.rd2.cells
      have hz := M.rd2.z 4
      have HMM := Lib.hid M
      clear M hb1
      go_region
      go_upto_region 4 with fail
      go_region
      all_goals
        go_wp2_with (first | (go_at_call 14; refine (HN.out _).mono ?_; rintro e w5 ⟨rfl, hb5⟩; have r5 := HMM.out.rd2.step (W' := w5) ⟨hb5.os, hb5.tape, hb5.output, hb5.size, hb5.block⟩; obtain ⟨⟨d0, d1, d2, d3⟩, d4, d5, d6, d7⟩ := r5.cells; have z5 := r5.z 4; have HR5 := Lib.hid r5; have H5 := Lib.hid hb5; clear r5 hb5))
        go_ret
        have hd5 : Below w2.heap.size w2 w5 := ⟨H5.out.os, H5.out.tape, H5.out.output, H5.out.size, H5.out.block⟩
        exact ⟨rfl, (fun h => nomatch h), (HMM.out.below.trans (hd5.mono HMM.out.size))⟩
  · by_cases h0 : c = 0
    · have HX : Hid ((true && (decide (c = 0) || decide (I = r.len))) = true) := Lib.hid (by rw [decide_eq_true h0]; rfl)
      rw [HX.out]
      have q1 : (((c : Int) + 1) == 1) = true := by rw [h0]; rfl
      clear h0 HX
      go_enter Tryd.func25, Tryd.ntmps25
      go_upto_region 3 with (first | (go_at_call 34; with_reducible refine (HP.out _).mono ?_; rintro e w1 ⟨rfl, hb1⟩))
      obtain ⟨w2, M⟩ := HM.out w1 hb1
      have k1 := M.look
      have k2 := M.put
      have k3 := M.look2
      have hbx := cell_of_row _ _ 0 _ _ _ M.box1
      have hby := cell_of_row _ _ 0 _ _ _ M.box2
      have hbz := cell_of_row _ _ 1 _ _ _ M.box2
      obtain ⟨⟨a0, a1, a2, a3⟩, a4, a5, a6, a7⟩ := M.rd1.cells
      obtain ⟨⟨b0, b1, b2, b3⟩, b4, b5, b6, b7⟩ := M.rd2.cells
      have hz := M.rd2.z 4
      have HMM := Lib.hid M
      clear M hb1
      go_region
      go_upto_region 4 with fail
      go_region
      all_goals
        go_wp2_with (first | (go_at_call 14; refine (HN.out _).mono ?_; rintro e w5 ⟨rfl, hb5⟩; have r5 := HMM.out.rd2.step (W' := w5) ⟨hb5.os, hb5.tape, hb5.output, hb5.size, hb5.block⟩; obtain ⟨⟨d0, d1, d2, d3⟩, d4, d5, d6, d7⟩ := r5.cells; have z5 := r5.z 4; have HR5 := Lib.hid r5; have H5 := Lib.hid hb5; clear r5 hb5))
        go_ret
        have hd5 : Below w2.heap.size w2 w5 := ⟨H5.out.os, H5.out.tape, H5.out.output, H5.out.size, H5.out.block⟩
        exact ⟨rfl, (fun _ => ⟨HR5.out.setLen I, (HMM.out.seen.below hd5).set hqb 4 (.int .i64 I)⟩), ((HMM.out.below.trans (hd5.mono HMM.out.size)).setCell (p := ⟨q, 4, none⟩) hq (.int .i64 I))⟩
    · have q1 : (((c : Int) + 1) == 1) = false := beq_eq_false_iff_ne.2 (by omega)
      by_cases h1 : I = r.len
      · have HX : Hid ((true && (decide (c = 0) || decide (I = r.len))) = true) := Lib.hid (by rw [decide_eq_true h1]; simp)
        rw [HX.out]
        have q2 : (I == r.len) = true := beq_iff_eq.2 h1
        have q3 : (I != r.len) = false := by simp [h1]
        clear h0 h1 HX
        go_enter Tryd.func25, Tryd.ntmps25
        go_upto_region 3 with (first | (go_at_call 34; with_reducible refine (HP.out _).mono ?_; rintro e w1 ⟨rfl, hb1⟩))
        obtain ⟨w2, M⟩ := HM.out w1 hb1
        have k1 := M.look
        have k2 := M.put
        have k3 := M.look2
        have hbx := cell_of_row _ _ 0 _ _ _ M.box1
        have hby := cell_of_row _ _ 0 _ _ _ M.box2
        have hbz := cell_of_row _ _ 1 _ _ _ M.box2
        obtain ⟨⟨a0, a1, a2, a3⟩, a4, a5, a6, a7⟩ := M.rd1.cells
        obtain ⟨⟨b0, b1, b2, b3⟩, b4, b5, b6, b7⟩ := M.rd2.cells
        have hz := M.rd2.z 4
        have HMM := Lib.hid M
        clear M hb1
        go_region
        go_upto_region 4 with fail
        go_region
        all_goals
          go_wp2_with (first | (go_at_call 14; refine (HN.out _).mono ?_; rintro e w5 ⟨rfl, hb5⟩; have r5 := HMM.out.rd2.step (W' := w5) ⟨hb5.os, hb5.tape, hb5.output, hb5.size, hb5.block⟩; obtain ⟨⟨d0, d1, d2, d3⟩, d4, d5, d6, d7⟩ := r5.cells; have z5 := r5.z 4; have HR5 := Lib.hid r5; have H5 := Lib.hid hb5; clear r5 hb5))
          go_ret
          have hd5 : Below w2.heap.size w2 w5 := ⟨H5.out.os, H5.out.tape, H5.out.output, H5.out.size, H5.out.block⟩
          exact ⟨rfl, (fun _ => ⟨HR5.out.setLen I, (HMM.out.seen.below hd5).set hqb 4 (.int .i64 I)⟩), ((HMM.out.below.trans (hd5.mono HMM.out.size)).setCell (p := ⟨q, 4, none⟩) hq (.int .i64 I))⟩
      · have HX : Hid ((true && (decide (c = 0) || decide (I = r.len))) = false) := Lib.hid (by rw [decide_eq_false h1, decide_eq_false h0]; rfl)
        rw [HX.out]
        have q2 : (I == r.len) = false := beq_eq_false_iff_ne.2 h1
        have q3 : (I != r.len) = true := by simp [h1]
        clear h0 h1 HX
        go_enter Tryd.func25, Tryd.ntmps25
        go_upto_region 3 with (first | (go_at_call 34; with_reducible refine (HP.out _).mono ?_; rintro e w1 ⟨rfl, hb1⟩))
        obtain ⟨w2, M⟩ := HM.out w1 hb1
        have k1 := M.look
        have k2 := M.put
        have k3 := M.look2
        have hbx := cell_of_row _ _ 0 _ _ _ M.box1
        have hby := cell_of_row _ _ 0 _ _ _ M.box2
        have hbz := cell_of_row _ _ 1 _ _ _ M.box2
        obtain ⟨⟨a0, a1, a2, a3⟩, a4, a5, a6, a7⟩ := M.rd1.cells
        obtain ⟨⟨b0, b1, b2, b3⟩, b4, b5, b6, b7⟩ := M.rd2.cells
        have hz := M.rd2.z 4
        have HMM := Lib.hid M
        clear M hb1
        go_region
        go_upto_region 4 with fail
        go_region
        all_goals
          go_wp2_with (first | (go_at_call 14; refine (HN.out _).mono ?_; rintro e w5 ⟨rfl, hb5⟩; have r5 := HMM.out.rd2.step (W' := w5) ⟨hb5.os, hb5.tape, hb5.output, hb5.size, hb5.block⟩; obtain ⟨⟨d0, d1, d2, d3⟩, d4, d5, d6, d7⟩ := r5.cells; have z5 := r5.z 4; have HR5 := Lib.hid r5; have H5 := Lib.hid hb5; clear r5 hb5))
          go_ret
          have hd5 : Below w2.heap.size w2 w5 := ⟨H5.out.os, H5.out.tape, H5.out.output, H5.out.size, H5.out.block⟩
          exact ⟨rfl, (fun h => nomatch h), (HMM.out.below.trans (hd5.mono HMM.out.size))⟩
theorem rplain_any (q b : Nat) (hqb : q ≠ b) (r : Rd) (L : List Fld) (hL : L.length ≤ 1000) (f : Fld) (hl : lightF f = true) (B : Nat) (W : World) (hq : B ≤ q) (hb : B ≤ b) (h : RdAt W q b r) (hs : SeenM W b L) (hM : ∀ W' : World, Below B W W' → MaxC W') :
    Calls Tryd.prog 25 #[.pointer (some ⟨q, 0, none⟩), f.val] W (PlPost q b r L f B W) := by
  cases hp : plainB f true
  · exact rplain_no q b r L f hl B W (Nat.le_trans hq (Nat.le_of_lt h.lt)) hp
  · by_cases n1 : f.name.data.toList = nHost
    · exact rplain_Host q b hqb r L hL f hl B W hq hb h hs hp hM n1
    · by_cases n2 : f.name.data.toList = nPrio
      · exact rplain_Prio q b hqb r L hL f hl B W hq hb h hs hp hM n2
      · by_cases n3 : f.name.data.toList = nLen
        · exact rplain_Len q b hqb r L hL f hl B W hq hb h hs hp hM n3
        · exact rplain_else q b hqb r L hL f hl B W hq hb h hs hp n1 n2 n3
end Go.Proofs.YtecmccihldjicaaDoor
