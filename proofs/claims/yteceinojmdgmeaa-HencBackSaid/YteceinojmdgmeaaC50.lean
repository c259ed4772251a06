/- henc.Block: the walk. -/
import Derived.Test.YteceinojmdgmeaaC48
namespace Go.Proofs.Yteceinojmdgmeaa
open Go.RowKit
set_option linter.unusedVariables false
set_option linter.unusedSimpArgs false

set_option maxRecDepth 100000 in
set_option maxHeartbeats 8000000 in
theorem eblock_any (mx le la : Int) (oa : Option Addr) (n cap : Nat) (T : List Fld) (hn : T.length = n) (hnc : n ≤ cap) (hl : ∀ f ∈ T, lightF f = true) (hn30 : n ≤ 1000) (ob : Option Addr) (m capb : Nat) (l : List Fld) (hm : l.length = m) (hll : ∀ f ∈ l, lightF f = true) (hm5 : m ≤ 900) (w : World) (hf : FieldsN w oa T) (hg : FieldsN w ob l) :
    Calls Try.prog 9 #[.agg #[.int .i64 mx, .slice oa n cap, .int .i64 le, .int .i64 la], .slice ob m capb] w (EBlkPost mx le la oa n cap T l w) := by
  have HH := Lib.hid (Ez.new w mx le la (.slice oa n cap))
  have HIT := Lib.hid (fun W (hW : Below w.heap.size w W) => eitems_any mx le la oa n cap T hn hnc hl hn30 ob m capb l hm hll hm5 W (hf.below hW) (hg.below hW))
  unfold ItemsPost at HIT
  have HM := Lib.hid (And.intro hm hm5)
  unfold EBlkPost
  clear hf hg hn hnc hl hn30 hm hll hm5
  go_enter Try.func9, Try.ntmps9
  go_upto_region 1 with fail
  generalize ((w.alloc (.cells #[.int .i64 mx, .slice oa n cap, .int .i64 le, .int .i64 la] 30)).alloc (.cells #[.int .i64 0, .slice none 0 0, .int .i64 0, .int .i64 0] 30)) = w1 at HH ⊢
  have c0 := HH.out.st.c0
  have c1 := HH.out.st.c1
  have c2 := HH.out.st.c2
  have c3 := HH.out.st.c3
  go_wp2_with fail
  refine (HIT.out _ HH.out.below).mono ?_
  clear c0 c1 c2 c3
  rintro e w2 (⟨hk, rfl, hb⟩ | ⟨hk, hlg, rfl, hb⟩ | ⟨hk, hlg, o2, n2, c2v, T2, ov, O1, rfl, her, hoi, hft, hln, hcp, hck, hb⟩)
  · have q1 : (echk mx le la T != 0) = true := by simp; exact hk
    have q2 : (echk mx le la T == 0) = false := beq_eq_false_iff_ne.2 hk
    have HK := Lib.hid hk
    replace HH := Lib.hid (HH.out.step (bs_hd hb (below_new (.cells #[.int .i64 mx, .slice oa n cap, .int .i64 le, .int .i64 la] 30))))
    clear hk hb
    have c0 := HH.out.st.c0
    have c1 := HH.out.st.c1
    have c2 := HH.out.st.c2
    have c3 := HH.out.st.c3
    go_wp2_with (first | (refine wpList_store_row rfl _ _ _ rfl (w.heap.size + 1) #[.int .i64 mx, .slice oa n cap, .int .i64 le, .int .i64 la] rfl rfl _ _ HH.out.rs (by kernel_rfl) rfl (by kernel_rfl) ?_))
    try rw [Exit.noGoto_ret]
    exact bodyPost_ret (v := .tuple #[.agg #[.int .i64 mx, .slice oa n cap, .int .i64 le, .int .i64 la], .slice none 0 0, .int .i64 (echk mx le la T)]) (res_cell3 rfl _ _ (w.heap.size + 1) _ _ (0, 0) _ rfl (setRow_heap _ _ _ _ _ _ HH.out.rs) Try.underlying30 rfl (by kernel_rfl) _ _ rfl rfl) rfl
      (.inl ⟨HK.out, rfl, below_row HH.out.below (by omega) _⟩)
  · have HK := Lib.hid (And.intro hk hlg)
    replace HH := Lib.hid (HH.out.step (bs_hd hb (below_new (.cells #[.int .i64 mx, .slice oa n cap, .int .i64 le, .int .i64 la] 30))))
    clear hk hlg hb
    have c0 := HH.out.st.c0
    have c1 := HH.out.st.c1
    have c2 := HH.out.st.c2
    have c3 := HH.out.st.c3
    go_wp2_with (first | (refine wpList_store_row rfl _ _ _ rfl (w.heap.size + 1) #[.int .i64 mx, .slice oa n cap, .int .i64 le, .int .i64 la] rfl rfl _ _ HH.out.rs (by kernel_rfl) rfl (by kernel_rfl) ?_))
    try rw [Exit.noGoto_ret]
    exact bodyPost_ret (v := .tuple #[.agg #[.int .i64 mx, .slice oa n cap, .int .i64 le, .int .i64 la], .slice none 0 0, .int .i64 5]) (res_cell3 rfl _ _ (w.heap.size + 1) _ _ (0, 0) _ rfl (setRow_heap _ _ _ _ _ _ HH.out.rs) Try.underlying30 rfl (by kernel_rfl) _ _ rfl rfl) rfl
      (.inr (.inl ⟨HK.out.1, HK.out.2, rfl, below_row HH.out.below (by omega) _⟩))
  · have HK := Lib.hid (And.intro hk hlg)
    have HER := Lib.hid her
    have HCK := Lib.hid hck
    have HV := Lib.hid (echk_facts hk)
    have HL1 := Lib.hid (rz_chk (mx := mx) HV.out.1 HV.out.2.1 (Int.le_trans HV.out.2.2.1 HV.out.2.2.2))
    have HL2 := Lib.hid (rz_chk (mx := le) (most := la) HL1.out.2 (Int.le_trans HV.out.2.1 HV.out.2.2.1) HV.out.2.2.2)
    have HCI := Lib.hid (show ∀ x ∈ rzO le la (rzO mx le []) ++ O1, chkI x = 0 from fun x hx => by
      rcases List.mem_append.1 hx with hx | hx
      · exact rzO_chk (rzO_chk (fun y hy => by cases hy) HV.out.2.1 (Int.le_trans HV.out.2.2.1 HV.out.2.2.2)) (Int.le_trans HV.out.2.1 HV.out.2.2.1) HV.out.2.2.2 x hx
      · exact her.chk HL2.out.2 hlg x hx)
    have HIL := Lib.hid (show (rzO le la (rzO mx le []) ++ O1).length ≤ 1000 from by
      have h1 := rzO_len le la (rzO mx le [])
      have h2 := rzO_len mx le []
      have h3 := her.len
      have h4 := HM.out
      rw [List.length_append]
      simp at h2
      omega)
    have HFT := Lib.hid (And.intro hft (And.intro hln hcp))
    obtain ⟨oi, ci, rfl, hit, _, _, _⟩ := hoi.form
    have HITS := Lib.hid hit
    have HBN := Lib.hid (below_new (W := w2) (.cells #[.int .i64 la, .slice o2 n2 c2v, .int .i64 la, .int .i64 la] 30))
    have H7 := Lib.hid (ERow.new w2 la la la (.slice o2 n2 c2v))
    replace HH := Lib.hid (HH.out.step (bs_hd hb HBN.out))
    replace HFT := Lib.hid (And.intro (HFT.out.1.below HBN.out) HFT.out.2)
    replace HITS := Lib.hid (HITS.out.below HBN.out)
    clear hk hlg her hoi hft hln hcp hck hb hit HBN HIT HL1 HL2 HV
    generalize hE : rzO le la (rzO mx le []) ++ O1 = its at *
    have HE := Lib.hid hE
    generalize hN : its.length = N at *
    have HN := Lib.hid hN
    clear hE hN
    go_upto_region 5 with fail
    generalize w2.alloc (.cells #[.int .i64 la, .slice o2 n2 c2v, .int .i64 la, .int .i64 la] 30) = wB at H7 HH HFT HITS ⊢
    generalize w2.heap.size = g7 at H7 ⊢
    have HHW := Lib.hid (show ∀ W, Below wB.heap.size wB W → Ez w mx le la (.slice oa n cap) W from fun W hW => HH.out.step hW)
    have HLT := Lib.hid HH.out.lt
    go_wp2_with fail
    go_loopw [10, 28] (fun bv iv wr => ∃ (k : Nat) (vv : Value), bv = vv ∧ iv = .int .i64 k ∧ k ≤ N ∧ OwnB wr wB.heap.size vv (catI (its.take k)) ∧ Below wB.heap.size wB wr) (fun _ iv _ => N - (intOf iv).toNat)
    case atStart => exact ⟨0, _, rfl, rfl, Nat.zero_le _, World.ownsRow_nil _ _ _ _, Below.refl _ _⟩
    case round =>
      obtain ⟨k, vv, hvv, rfl, hkN, hown, hbe⟩ := hrel
      obtain rfl := hvv.symm
      have HO := Lib.hid hown
      have HB := Lib.hid hbe
      clear hvv hown hbe HH
      have HCT := Lib.hid (show (catI (its.take k)).length ≤ 12000000 * 1000 from by
        have h1 := catI_wide (its.take k) (fun x hx => HCI.out x (List.mem_of_mem_take hx))
        have h2 := HIL.out
        rw [List.length_take] at h1
        have h3 := HN.out
        omega)
      by_cases hlt : k < N
      · have q1 : decide ((k : Int) < (N : Int)) = true := decide_eq_true (by omega)
        have hw8 : IntKind.i64.wrap ((k : Int) + 1) = (k : Int) + 1 := IntWalk.i64_in _ (by have := HIL.out; omega)
        obtain ⟨x, hx⟩ : ∃ x, its[k]? = some x := ⟨its[k]'(by rw [HN.out]; exact hlt), List.getElem?_eq_getElem _⟩
        have hcx := HCI.out x (List.mem_of_getElem? hx)
        have HTK := Lib.hid (show catI (its.take k) ++ itemN x = catI (its.take (k + 1)) from by rw [List.take_add_one, hx, catI_append]; simp [catI])
        have hbl := itemN_wide x hcx
        obtain ⟨b0, o0, rfl, l0, l1, l2, l3⟩ := (HITS.out.below HB.out) k x hx
        obtain ⟨kd, ix, nm, vl⟩ := x
        have hkd : kd ≤ 4 := (chk_ok hcx).1
        dsimp only at l0 l1 l2 l3
        clear hx
        go_upto_region 8 with fail
        have HX := Lib.hid (show IRow (wr.alloc (.cells #[.int .u8 (kd : Int), .int .i64 ix, .string nm, .string vl] 49)) wr.heap.size kd ix nm vl from heap_alloc_new wr _)
        have hbn := below_new (W := wr) (.cells #[.int .u8 (kd : Int), .int .i64 ix, .string nm, .string vl] 49)
        replace HO := Lib.hid (HO.out.keep (fun g hg => hbn.block g (HO.out.own_lt g hg).2))
        replace HB := Lib.hid (bs_hd HB.out hbn)
        clear hbn l0 l1 l2 l3
        generalize wr.alloc (.cells #[.int .u8 (kd : Int), .int .i64 ix, .string nm, .string vl] 49) = w5 at HX HO HB ⊢
        generalize wr.heap.size = g12 at HX ⊢
        have x0 := HX.out.c0
        have x1 := HX.out.c1
        have x2 := HX.out.c2
        have x3 := HX.out.c3
        go_wp2_with fail
        refine (rput_any kd ix nm vl (by omega) _).mono ?_
        clear x0 x1 x2 x3
        rintro e w6 (⟨hc0, rfl, hb⟩ | ⟨hc0, v6, rfl, ho, hb⟩)
        · exact absurd hcx hc0
        · have HO6 := Lib.hid ho
          replace HO := Lib.hid (HO.out.keep (fun g hg => hb.block g (HO.out.own_lt g hg).2))
          replace HB := Lib.hid (bs_hd HB.out hb)
          obtain ⟨og, cg, rfl, hby, _, _, _⟩ := HO6.out.form3
          have HBY := Lib.hid hby
          have HBL := Lib.hid hbl
          have HSZ := Lib.hid HB.out.size
          clear hc0 ho hb hby hbl hcx
          generalize itemN ⟨kd, ix, nm, vl⟩ = bs at HO6 HBY HBL HTK ⊢
          generalize hbn : bs.length = nb at HBL ⊢
          have HBN := Lib.hid hbn
          clear hbn
          generalize catI (its.take k) = CB at HO HCT HTK
          go_wp2_with (first | (at_builtin; refine wpList_appB rfl _ _ rfl wB.heap.size vv CB rfl HO.out og nb cg bs rfl HBN.out HBY.out (by have := HBL.out; have := HCT.out; omega) HSZ.out ?_; intro v7 w7 hown hg _; have HO7 := Lib.hid hown; have HB7 := Lib.hid (HB.out.grown hg HSZ.out (fun q hq => (HO.out.own_lt q hq).1)); clear hown hg))
          go_roundw
          case rel => exact ⟨k + 1, v7, rfl, by go_num, by omega, by rw [← HTK.out]; exact HO7.out, HB7.out⟩
          case measure => simp [intOf]; omega
      · obtain rfl : k = N := by omega
        have q1 : decide ((k : Int) < (k : Int)) = false := by simp
        rw [List.take_of_length_le (by rw [HN.out]; exact Nat.le_refl _)] at HO
        have HEZ := Lib.hid (HHW.out _ HB.out)
        have H7B := Lib.hid (H7.out.step HB.out)
        have HFB := Lib.hid (HFT.out.1.below HB.out)
        obtain ⟨ab, cb, rfl, hby, _, _, _⟩ := HO.out.form3
        generalize hCB : (catI its).length = nb at HO ⊢
        have HCB := Lib.hid hCB
        clear hby hCB HCT
        have hWs := HEZ.out.below.size
        have hlw := HLT.out
        by_cases hbig : 4096 < nb
        · have q2 : decide ((4096 : Int) < (nb : Int)) = true := decide_eq_true (by omega)
          have HBG := Lib.hid hbig
          clear hbig
          have c0 := HEZ.out.st.c0
          have c1 := HEZ.out.st.c1
          have c2 := HEZ.out.st.c2
          have c3 := HEZ.out.st.c3
          go_wp2_with (first | (refine wpList_store_row rfl _ _ _ rfl (w.heap.size + 1) #[.int .i64 mx, .slice oa n cap, .int .i64 le, .int .i64 la] rfl rfl _ _ HEZ.out.rs (by kernel_rfl) rfl (by kernel_rfl) ?_))
          try rw [Exit.noGoto_ret]
          exact bodyPost_ret (v := .tuple #[.agg #[.int .i64 mx, .slice oa n cap, .int .i64 le, .int .i64 la], .slice none 0 0, .int .i64 5]) (res_cell3 rfl _ _ (w.heap.size + 1) _ _ (0, 0) _ rfl (setRow_heap _ _ _ _ _ _ HEZ.out.rs) Try.underlying30 rfl (by kernel_rfl) _ _ rfl rfl) rfl
            (.inr (.inr ⟨HK.out.1, HK.out.2, T2, O1, HER.out, HCK.out, .inl ⟨by rw [HE.out, HCB.out]; exact HBG.out, rfl, below_row HEZ.out.below (by omega) _⟩⟩))
        · have q2 : decide ((4096 : Int) < (nb : Int)) = false := decide_eq_false (by omega)
          have HBG := Lib.hid (show nb ≤ 4096 by omega)
          clear hbig
          have c0 := H7B.out.c0
          have c1 := H7B.out.c1
          have c2 := H7B.out.c2
          have c3 := H7B.out.c3
          go_wp2_with (first | (refine wpList_store_row rfl _ _ _ rfl (w.heap.size + 1) #[.int .i64 la, .slice o2 n2 c2v, .int .i64 la, .int .i64 la] rfl rfl _ _ HEZ.out.rs (by kernel_rfl) rfl (by kernel_rfl) ?_))
          try rw [Exit.noGoto_ret]
          exact bodyPost_ret (v := .tuple #[.agg #[.int .i64 la, .slice o2 n2 c2v, .int .i64 la, .int .i64 la], .slice ab nb cb, .int .i64 0]) (res_cell3 rfl _ _ (w.heap.size + 1) _ _ (0, 0) _ rfl (setRow_heap _ _ _ _ _ _ HEZ.out.rs) Try.underlying30 rfl (by kernel_rfl) _ _ rfl rfl) rfl
            (.inr (.inr ⟨HK.out.1, HK.out.2, T2, O1, HER.out, HCK.out, .inr ⟨by rw [HE.out, HCB.out]; exact HBG.out, o2, n2, c2v, _, rfl, by rw [HE.out]; exact (HO.out.keep (fun g hg => setRow_other _ _ _ _ (by have := (HO.out.own_lt g hg).1; omega))).mono (by omega), HFB.out.setRow (sep_eres HFB.out HEZ.out.rs) _, HFT.out.2.1, HFT.out.2.2, below_row HEZ.out.below (by omega) _⟩⟩))
end Go.Proofs.Yteceinojmdgmeaa

