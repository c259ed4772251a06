/- footmanref06.Block: the walk. -/
import Derived.Test.YteceinojmdgmeaaGreatC50
import Derived.Deep.RegionHeld
import Derived.Deep.DeepCutAuto
import Derived.Test.YteceinojmdgmeaaGreatC21
namespace Go.Proofs.YteceinojmdgmeaaGreat
open Go.RowKit
set_option linter.unusedVariables false
set_option linter.unusedSimpArgs false

set_option maxRecDepth 100000 in
set_option maxHeartbeats 4000000 in
theorem dblock_no (mx cp : Int) (oa : Option Addr) (n cap : Nat) (L : List Fld) (hn : L.length = n) (hnc : n ≤ cap) (hl : ∀ f ∈ L, lightF f = true) (hn30 : n ≤ 1000) (ob : Option Addr) (m capb : Nat) (bs : List Nat) (hm : bs.length = m) (hmc : m ≤ capb) (hm5 : m ≤ 100) (w : World) (hf : FieldsN w oa L) (hby : BytesN w ob bs) (hb256 : ∀ i, i < bs.length → bs.getD i 0 < 256)
    (h : hchk mx cp L ≠ 0 ∨ (allG bs).2 ≠ 0) :
    Calls Tryz.prog 8 #[.agg #[.int .i64 mx, .slice oa n cap, .int .i64 cp], .slice ob m capb] w (BlkPost mx cp L bs w) := by
  have HH := Lib.hid (Dk.new w mx cp (.slice oa n cap))
  have HFW := Lib.hid (show ∀ W, Below w.heap.size w W → FieldsN W oa L from fun W hW => hf.below hW)
  have HCK := Lib.hid (fun W (hW : Below w.heap.size w W) => dcheck6_any mx cp oa n cap L hn hl hn30 W (hf.below hW))
  have HAL := Lib.hid (fun W (hW : Below w.heap.size w W) => dall_any ob m capb bs hm hmc hm5 W (hby.below hW) hb256)
  unfold DAllPost at HAL
  have HN := Lib.hid hn
  unfold BlkPost
  by_cases h0 : hchk mx cp L = 0
  · have h1 : (allG bs).2 ≠ 0 := by rcases h with h | h; exact absurd h0 h; exact h
    have HBK : Hid (hBlk mx cp L bs = (mx, L, [], false, (((allG bs).2 : Nat) : Int))) := Lib.hid (by unfold hBlk; rw [if_neg (by omega), if_pos h1])
    rw [h0] at HCK
    generalize hBlk mx cp L bs = R at HBK ⊢
    generalize allG bs = G at HAL HBK h1
    obtain ⟨its, er⟩ := G
    dsimp only at HAL HBK h1
    have q1 : ((er : Int) == 0) = false := beq_eq_false_iff_ne.2 (by omega)
    have q2 : ((er : Int) != 0) = true := by rw [bne, q1]; rfl
    clear hf hn h h0 h1 hby hb256 hl hm
    go_enter Tryz.func8, Tryz.ntmps8
    go_upto_region 1 with fail
    generalize ((w.alloc (.cells #[.int .i64 mx, .slice oa n cap, .int .i64 cp] 26)).alloc (.cells #[.int .i64 0, .slice none 0 0, .int .i64 0] 26)) = w1 at HH ⊢
    have c0 := HH.out.st.c0
    have c1 := HH.out.st.c1
    have c2 := HH.out.st.c2
    go_wp2_with (first | (go_at_call 20; refine (HCK.out _ HH.out.below).mono ?_; rintro e w2 ⟨rfl, hb⟩; replace HH := Lib.hid (HH.out.step hb); clear hb; have c0 := HH.out.st.c0; have c1 := HH.out.st.c1; have c2 := HH.out.st.c2) | (go_at_call 21; refine (HAL.out _ HH.out.below).mono ?_; rintro e w3 ⟨v, rfl, ho, hb⟩; obtain ⟨oi, ci, rfl, hit, hic, hix⟩ := ho.form; replace HH := Lib.hid (HH.out.step hb); have HIT := Lib.hid hit; clear hb ho hit hic hix; have c0 := HH.out.st.c0; have c1 := HH.out.st.c1; have c2 := HH.out.st.c2) | (refine wpList_store_row rfl _ _ _ rfl (w.heap.size + 1) #[.int .i64 mx, .slice oa n cap, .int .i64 cp] rfl rfl _ _ HH.out.rs (by kernel_rfl) rfl (by kernel_rfl) ?_))
    try rw [Exit.noGoto_ret]
    exact bodyPost_ret (v := .tuple #[.agg #[.int .i64 mx, .slice oa n cap, .int .i64 cp], .slice none 0 0, .bool false, .int .i64 (er : Nat)]) (res_cell4 rfl _ _ (w.heap.size + 1) _ _ (0, 0) _ rfl (setRow_heap _ _ _ _ _ _ HH.out.rs) Tryz.underlying26 rfl (by kernel_rfl) _ _ _ rfl rfl rfl) rfl
      ⟨oa, n, cap, none, 0, 0, by rw [HBK.out], by rw [HBK.out]; exact HN.out, hnc, by rw [HBK.out]; exact HFW.out _ (below_row HH.out.below (by omega) _), by rw [HBK.out]; rfl, Nat.le_refl _, by rw [HBK.out]; exact FieldsN.nil _ _, below_row HH.out.below (by omega) _⟩
  · have HBK : Hid (hBlk mx cp L bs = (mx, L, [], false, hchk mx cp L)) := Lib.hid (by unfold hBlk; rw [if_pos h0])
    have q1 : (hchk mx cp L == 0) = false := beq_eq_false_iff_ne.2 h0
    have q2 : (hchk mx cp L != 0) = true := by rw [bne, q1]; rfl
    generalize hBlk mx cp L bs = R at HBK ⊢
    generalize hchk mx cp L = hc at HCK HBK q1 q2 h
    clear hf hn h h0 hby hb256 hl hm
    go_enter Tryz.func8, Tryz.ntmps8
    go_upto_region 1 with fail
    generalize ((w.alloc (.cells #[.int .i64 mx, .slice oa n cap, .int .i64 cp] 26)).alloc (.cells #[.int .i64 0, .slice none 0 0, .int .i64 0] 26)) = w1 at HH ⊢
    have c0 := HH.out.st.c0
    have c1 := HH.out.st.c1
    have c2 := HH.out.st.c2
    go_wp2_with (first | (go_at_call 20; refine (HCK.out _ HH.out.below).mono ?_; rintro e w2 ⟨rfl, hb⟩; replace HH := Lib.hid (HH.out.step hb); clear hb; have c0 := HH.out.st.c0; have c1 := HH.out.st.c1; have c2 := HH.out.st.c2) | (refine wpList_store_row rfl _ _ _ rfl (w.heap.size + 1) #[.int .i64 mx, .slice oa n cap, .int .i64 cp] rfl rfl _ _ HH.out.rs (by kernel_rfl) rfl (by kernel_rfl) ?_))
    try rw [Exit.noGoto_ret]
    exact bodyPost_ret (v := .tuple #[.agg #[.int .i64 mx, .slice oa n cap, .int .i64 cp], .slice none 0 0, .bool false, .int .i64 hc]) (res_cell4 rfl _ _ (w.heap.size + 1) _ _ (0, 0) _ rfl (setRow_heap _ _ _ _ _ _ HH.out.rs) Tryz.underlying26 rfl (by kernel_rfl) _ _ _ rfl rfl rfl) rfl
      ⟨oa, n, cap, none, 0, 0, by rw [HBK.out], by rw [HBK.out]; exact HN.out, hnc, by rw [HBK.out]; exact HFW.out _ (below_row HH.out.below (by omega) _), by rw [HBK.out]; rfl, Nat.le_refl _, by rw [HBK.out]; exact FieldsN.nil _ _, below_row HH.out.below (by omega) _⟩
set_option maxRecDepth 100000 in
set_option maxHeartbeats 4000000 in
theorem dblock_yes (mx cp : Int) (oa : Option Addr) (n cap : Nat) (L : List Fld) (hn : L.length = n) (hnc : n ≤ cap) (hl : ∀ f ∈ L, lightF f = true) (hn30 : n ≤ 1000) (ob : Option Addr) (m capb : Nat) (bs : List Nat) (hm : bs.length = m) (hmc : m ≤ capb) (hm5 : m ≤ 100) (w : World) (hf : FieldsN w oa L) (hby : BytesN w ob bs) (hb256 : ∀ i, i < bs.length → bs.getD i 0 < 256)
    (h0 : hchk mx cp L = 0) (h1 : (allG bs).2 = 0) :
    Calls Tryz.prog 8 #[.agg #[.int .i64 mx, .slice oa n cap, .int .i64 cp], .slice ob m capb] w (BlkPost mx cp L bs w) := by
  have HH := Lib.hid (Dk.new w mx cp (.slice oa n cap))
  have HFW := Lib.hid (show ∀ W, Below w.heap.size w W → FieldsN W oa L from fun W hW => hf.below hW)
  have HCK := Lib.hid (fun W (hW : Below w.heap.size w W) => dcheck6_any mx cp oa n cap L hn hl hn30 W (hf.below hW))
  have HAL := Lib.hid (fun W (hW : Below w.heap.size w W) => dall_any ob m capb bs hm hmc hm5 W (hby.below hW) hb256)
  unfold DAllPost at HAL
  have HN := Lib.hid hn
  unfold BlkPost
  have HGOT := Lib.hid (allG_got bs h1)
  have HBK0 : Hid (hBlk mx cp L bs = if (hRun cp (allG bs).1 mx L false []).2.2.2 ≠ 0 then (mx, L, [], false, (hRun cp (allG bs).1 mx L false []).2.2.2) else if 1024 < sumF (hRun cp (allG bs).1 mx L false []).2.2.1 then ((hRun cp (allG bs).1 mx L false []).1, (hRun cp (allG bs).1 mx L false []).2.1, [], false, 0) else ((hRun cp (allG bs).1 mx L false []).1, (hRun cp (allG bs).1 mx L false []).2.1, (hRun cp (allG bs).1 mx L false []).2.2.1, true, 0)) := Lib.hid (by unfold hBlk; rw [if_neg (by omega), if_neg (by omega)])
  rw [h0] at HCK
  rw [h1] at HAL
  generalize hBlk mx cp L bs = R at HBK0 ⊢
  have HIL := Lib.hid (allG_len bs)
  generalize (allG bs).1 = its at HAL HBK0 HGOT HIL
  obtain ⟨T, hT⟩ : ∃ T, hRun cp its mx L false [] = T := ⟨_, rfl⟩
  rw [hT] at HBK0
  have HT := Lib.hid hT
  have HH0 := Lib.hid h0
  have HM5 := Lib.hid (And.intro hm hm5)
  have HOA := Lib.hid (show ∀ a, oa = some a → L ≠ [] → a.block < w.heap.size from fun a ha hne => fields_lt hf a ha hne)
  obtain ⟨i0, hi0, hz0, hz1, hz2⟩ := info_parts field_info
  have HI := Lib.hid hi0
  have HZ0 := Lib.hid hz0
  have HZ1 := Lib.hid hz1
  have HZ2 := Lib.hid hz2
  clear hf hn h0 h1 hby hb256 hl hm hm5 hT hi0 hz0 hz1 hz2
  go_enter Tryz.func8, Tryz.ntmps8
  go_upto_region 1 with fail
  generalize ((w.alloc (.cells #[.int .i64 mx, .slice oa n cap, .int .i64 cp] 26)).alloc (.cells #[.int .i64 0, .slice none 0 0, .int .i64 0] 26)) = w1 at HH ⊢
  have c0 := HH.out.st.c0
  have c1 := HH.out.st.c1
  have c2 := HH.out.st.c2
  go_upto_region 7 with (first | (go_at_call 20; refine (HCK.out _ HH.out.below).mono ?_; rintro e w2 ⟨rfl, hb⟩; replace HH := Lib.hid (HH.out.step hb); clear hb; have c0 := HH.out.st.c0; have c1 := HH.out.st.c1; have c2 := HH.out.st.c2) | (go_at_call 21; refine (HAL.out _ HH.out.below).mono ?_; rintro e w3 ⟨v, rfl, ho, hb⟩; obtain ⟨oi, ci, rfl, hit, hic, hix⟩ := ho.form; replace HH := Lib.hid (HH.out.step hb); have HIT := Lib.hid hit; clear hb ho hit hic hix; have c0 := HH.out.st.c0; have c1 := HH.out.st.c1; have c2 := HH.out.st.c2))
  clear c0 c1 c2
  have c0 := HH.out.st.c0
  have c1 := HH.out.st.c1
  have c2 := HH.out.st.c2
  go_upto_region 8 with fail
  have HR0 := Lib.hid (show DkRel w w3 cp mx L oa n cap [] (.slice none 0 0) (w3.alloc (.cells #[.int .i64 mx, .slice oa n cap, .int .i64 cp] 26)) from
    ⟨SRow.new _ w3 mx cp (.slice oa n cap), HN.out, hnc, (HFW.out _ HH.out.below).below ((Below.refl _ _).alloc (Nat.le_refl _) _), HH0.out, World.ownsRow_nil _ _ _ _, (fun f hf => by cases hf),
      fun a ha hne => ⟨by have := HOA.out a ha hne; have := HH.out.lt; omega, (fun g hg => by cases hg)⟩, (Below.refl _ _).alloc (Nat.le_refl _) _⟩)
  have HGW := Lib.hid HH.out.lt
  have HHW := Lib.hid (show ∀ W, Below w3.heap.size w3 W → Dk w W mx cp (.slice oa n cap) from fun W hW => HH.out.step hW)
  have HITW := Lib.hid (show ∀ W, Below w3.heap.size w3 W → ItemsN W oi its from fun W hW => HIT.out.below hW)
  have HSP0 := Lib.hid (show ∀ a, oa = some a → L ≠ [] → a.block ≠ w.heap.size + 1 from fun a ha hne => by have := HOA.out a ha hne; omega)
  generalize hNI : its.length = N
  have HNI := Lib.hid hNI
  clear hNI HH HIT c0 c1 c2 HOA
  generalize w3.alloc (.cells #[.int .i64 mx, .slice oa n cap, .int .i64 cp] 26) = w4 at HR0 ⊢
  obtain ⟨wi, hwi⟩ : ∃ wi, wi = w3 := ⟨_, rfl⟩
  subst hwi
  go_wp2_with fail
  go_loopw [12, 13] (fun ov iv wr => ∃ (k : Nat) (mk : Int) (Lk : List Fld) (lo : Option Addr) (ln lc : Nat) (bg : Bool) (out : List Fld) (vv : Value), ov = vv ∧ iv = .int .i64 k ∧ k ≤ N ∧ out.length ≤ k ∧ DkRel w wi cp mk Lk lo ln lc out vv wr ∧ (∀ a, lo = some a → Lk ≠ [] → a.block ≠ w.heap.size + 1) ∧ bg = bgF its k ∧ hRun cp (its.drop k) mk Lk bg out = T) (fun _ iv _ => N - (intOf iv).toNat)
  case atStart => exact ⟨0, mx, L, oa, n, cap, false, [], _, rfl, rfl, Nat.zero_le _, Nat.le_refl _, HR0.out, HSP0.out, rfl, HT.out⟩
  case round =>
    obtain ⟨k, mk, Lk, lo, ln, lc, bg, out, vv, hv, rfl, hk, hol, hrel, hsp, hbg, hrun⟩ := hrel
    obtain rfl := hv.symm
    have HR := Lib.hid hrel
    have HSP := Lib.hid hsp
    have HRUN := Lib.hid hrun
    have HOL := Lib.hid hol
    have HBG := Lib.hid hbg
    have HH := Lib.hid (HHW.out _ HR.out.below)
    have HK := Lib.hid (show N ≤ 100 by have := HIL.out; have := HNI.out; have := HM5.out; omega)
    have hw8 : IntKind.i64.wrap ((k : Int) + 1) = (k : Int) + 1 := IntWalk.i64_in _ (by have := HK.out; omega)
    clear hrel hsp hrun hol hv hbg HR0 HSP0 HT HH0
    by_cases hlt : k < N
    · have q1 : decide ((k : Int) < (N : Int)) = true := decide_eq_true (by omega)
      obtain ⟨x, hx⟩ : ∃ x, its[k]? = some x := ⟨its[k]'(by rw [HNI.out]; exact hlt), List.getElem?_eq_getElem _⟩
      have HDR := Lib.hid (show its.drop k = x :: its.drop (k + 1) from by
        obtain ⟨h1, h2⟩ := List.getElem?_eq_some_iff.1 hx
        rw [List.drop_eq_getElem_cons h1, h2])
      have HG := Lib.hid (HGOT.out x (List.mem_of_getElem? hx))
      obtain ⟨b0, o0, hoi, i0c, i1c, i2c, i3c⟩ := (HITW.out _ HR.out.below) k x hx
      obtain ⟨kd, ix, nm, vl⟩ := x
      have HRU := Lib.hid (show (if kd = 4 ∧ bg = true then (mk, Lk, out, 10) else if (hSt mk cp Lk ⟨kd, ix, nm, vl⟩).2.2.2.2 ≠ 0 then (mk, Lk, out, (hSt mk cp Lk ⟨kd, ix, nm, vl⟩).2.2.2.2) else if (hSt mk cp Lk ⟨kd, ix, nm, vl⟩).2.2.2.1 = true then hRun cp (its.drop (k + 1)) (hSt mk cp Lk ⟨kd, ix, nm, vl⟩).1 (hSt mk cp Lk ⟨kd, ix, nm, vl⟩).2.1 true (out ++ [(hSt mk cp Lk ⟨kd, ix, nm, vl⟩).2.2.1]) else hRun cp (its.drop (k + 1)) (hSt mk cp Lk ⟨kd, ix, nm, vl⟩).1 (hSt mk cp Lk ⟨kd, ix, nm, vl⟩).2.1 bg out) = T from by have := HRUN.out; rw [HDR.out] at this; exact this)
      have HSTC := Lib.hid (hSt_chk (mx := mk) (cp := cp) (L := Lk) ⟨kd, ix, nm, vl⟩ HR.out.chk)
      have HBGN := Lib.hid (fun ho he => bgF_next hx HBG.out (mx := mk) (cp := cp) (L := Lk) ho he)
      have hnm4 : nm.size ≤ 40000 := by have h1 : nm.size ≤ _ := HG.out.name; have h2 := HM5.out; omega
      have hvl4 : vl.size ≤ 40000 := by have h1 : vl.size ≤ _ := HG.out.value; have h2 := HM5.out; omega
      have HSTL := Lib.hid (hSt_light (mx := mk) (cp := cp) (L := Lk) (x := ⟨kd, ix, nm, vl⟩) HR.out.chk hnm4 hvl4)
      have HSTP := Lib.hid (show ∀ W, FieldsN W lo Lk → Calls Tryz.prog 22 #[.agg #[.int .i64 mk, .slice lo ln lc, .int .i64 cp], .agg #[.int .u8 (kd : Int), .int .i64 ix, .string nm, .string vl]] W (StepPost3 lo mk cp Lk ⟨kd, ix, nm, vl⟩ W) from fun W hW => by
        have hck := chk_light (hchk_zero.1 HR.out.chk).1
        have hkd := HG.out.kind
        have hlo := HG.out.lo
        have hhi := HG.out.hi
        dsimp only at hkd hlo hhi
        exact dstepP_any mk cp lo ln lc Lk HR.out.len HR.out.cap hck.2 (by have := HR.out.len; have := hck.1; omega) kd (by omega) ix nm vl (lit_wf hlo hhi) hvl4 hnm4 W hW)
      unfold StepPost3 at HSTP
      have hst : hStep mk cp Lk ⟨kd, ix, nm, vl⟩ = hSt mk cp Lk ⟨kd, ix, nm, vl⟩ := by
        unfold hStep
        rw [if_neg (by simp [HR.out.chk]), if_neg (by simp [HG.out.chk (by have := HM5.out; omega)])]
      rw [hst] at HSTP
      clear hst
      generalize hSt mk cp Lk ⟨kd, ix, nm, vl⟩ = S at HSTP HRU HSTC HSTL HBGN
      obtain ⟨s1, s2, s3, s4, s5⟩ := S
      dsimp only at HSTP HRU HSTC HSTL HBGN i0c i1c i2c i3c
      subst hoi
      have HX := Lib.hid hx
      clear hx HGOT HG hnm4 hvl4 HRUN HDR
      go_upto_region 12 with fail
      go_cut [58] (fun v58 wx => v58 = .bool (decide (kd = 4 ∧ bg = true)) ∧ wr = wx)
      case first =>
        by_cases h4 : kd = 4
        · have q2 : ((kd : Int) == 4) = true := by rw [h4]; rfl
          rcases Nat.eq_zero_or_pos k with hk0 | hpos
          · have q7 : ¬ (0 < k) := by omega
            have e : bg = false := by rw [HBG.out, hk0]; rfl
            have e2 : decide (kd = 4 ∧ bg = true) = false := by rw [e]; simp
            have HE2 := Lib.hid e2
            clear e e2 hk0
            go_wp2_with fail
            go_meet
            exact ⟨congrArg Value.bool HE2.out.symm, rfl⟩
          · obtain ⟨j, hj⟩ : ∃ j, k = j + 1 := ⟨k - 1, by omega⟩
            obtain ⟨y, hy⟩ : ∃ y, its[j]? = some y := ⟨its[j]'(by rw [HNI.out]; omega), List.getElem?_eq_getElem _⟩
            obtain ⟨b1, o1, ho1, j0c, _, _, _⟩ := (HITW.out _ HR.out.below) j y hy
            injection ho1 with ho1
            injection ho1 with hb1 ho1 _
            subst hb1
            subst ho1
            have q7 : 0 < k := hpos
            have hw9 : IntKind.i64.wrap ((k : Int) - 1) = (j : Int) := by rw [IntWalk.i64_in _ (by have := HK.out; omega)]; omega
            have hjN : j < N := by omega
            have e : bg = !decide (y.kind = 4) := by rw [HBG.out, hj]; show (match its[j]? with | some x => !decide (x.kind = 4) | none => false) = _; rw [hy]
            have q8 : ((y.kind : Int) == 4) = !bg := by
              rw [e]
              by_cases c : y.kind = 4
              · rw [c]; rfl
              · rw [decide_eq_false c]; exact beq_eq_false_iff_ne.2 (by omega)
            have q9 : ((y.kind : Int) != 4) = bg := by rw [bne, q8]; cases bg <;> rfl
            have e2 : decide (kd = 4 ∧ bg = true) = bg := by cases bg <;> simp [h4]
            have HE2 := Lib.hid e2
            clear e e2 hj hy hpos
            go_wp2_with fail
            go_meet
            exact ⟨congrArg Value.bool HE2.out.symm, rfl⟩
        · have q2 : ((kd : Int) == 4) = false := beq_eq_false_iff_ne.2 (by omega)
          have e2 : decide (kd = 4 ∧ bg = true) = false := decide_eq_false (fun h => h4 h.1)
          have HE2 := Lib.hid e2
          clear e2
          go_wp2_with fail
          go_meet
          exact ⟨congrArg Value.bool HE2.out.symm, rfl⟩
      case rest =>
        obtain ⟨rfl, rfl⟩ := hcut
        clear i0c i1c i2c i3c
        by_cases hord : kd = 4 ∧ bg = true
        · have HE := Lib.hid ((if_pos hord).symm.trans HRU.out)
          rw [decide_eq_true hord]
          have HBK := Lib.hid (show R = (mx, L, [], false, 10) from by rw [HBK0.out, ← HE.out]; rfl)
          clear HBK0 HE HRU
          have c0 := HH.out.st.c0
          have c1 := HH.out.st.c1
          have c2 := HH.out.st.c2
          go_wp2_with (first | (refine wpList_store_row rfl _ _ _ rfl (w.heap.size + 1) #[.int .i64 mx, .slice oa n cap, .int .i64 cp] rfl rfl _ _ HH.out.rs (by kernel_rfl) rfl (by kernel_rfl) ?_))
          try rw [Exit.noGoto_ret]
          exact bodyPost_ret (v := .tuple #[.agg #[.int .i64 mx, .slice oa n cap, .int .i64 cp], .slice none 0 0, .bool false, .int .i64 10]) (res_cell4 rfl _ _ (w.heap.size + 1) _ _ (0, 0) _ rfl (setRow_heap _ _ _ _ _ _ HH.out.rs) Tryz.underlying26 rfl (by kernel_rfl) _ _ _ rfl rfl rfl) rfl
            ⟨oa, n, cap, none, 0, 0, by rw [HBK.out], by rw [HBK.out]; exact HN.out, hnc, by rw [HBK.out]; exact HFW.out _ (below_row HH.out.below (by omega) _), by rw [HBK.out]; rfl, Nat.le_refl _, by rw [HBK.out]; exact FieldsN.nil _ _, below_row HH.out.below (by omega) _⟩
        · replace HRU := Lib.hid ((if_neg hord).symm.trans HRU.out)
          rw [decide_eq_false hord]
          replace HBGN := Lib.hid (HBGN.out hord)
          clear hord
          go_upto_region 14 with fail
          go_cut [14, 15, 16, 17] (fun v14 v15 v16 v17 wx => ∃ (g14 g15 : Nat) (lo2 : Option Addr) (ln2 lc2 : Nat), v14 = .pointer (some ⟨g14, 0, none⟩) ∧ v15 = .pointer (some ⟨g15, 0, none⟩) ∧ v16 = .bool s4 ∧ v17 = .int .i64 s5 ∧ wr.heap.size ≤ g14 ∧ wr.heap.size ≤ g15 ∧ SRow 26 wx g14 s1 (.slice lo2 ln2 lc2) cp ∧ FRow wx g15 s3 ∧ s2.length = ln2 ∧ ln2 ≤ lc2 ∧ ((lo2 = lo ∧ s2 = Lk) ∨ ∀ a, lo2 = some a → wr.heap.size ≤ a.block) ∧ FieldsN wx lo2 s2 ∧ Below wr.heap.size wr wx)
          case first =>
            have HRD := Lib.hid (show Below wr.heap.size wr wr.drew from (Below.refl _ _).drew)
            refine wp_region_held_drew (S := fun W => Below wr.heap.size wr W) (by kernel_rfl) HRD.out (fun hHeld => ?_)
            clear HRD
            refine wpAnyH_takeD (i := 0) (v := ?_) (some 61) rfl rfl rfl (by kernel_rfl) (by kernel_rfl) (by kernel_rfl) (fun _ _ _ h => h) ?_ (by assumption) ?_
            rotate_left
            · intro W hW
              have HRW := HR.out.step hW
              have r0 := HRW.row.c0
              have r1 := HRW.row.c1
              have r2 := HRW.row.c2
              go_simp
              with_reducible rfl
            try simp only [Act.put, List.setIfInBounds_toArray, List.set_cons_zero, List.set_cons_succ]
            refine wpAnyH_takeD (i := 1) (v := ?_) (some 62) rfl rfl rfl (by kernel_rfl) (by kernel_rfl) (by kernel_rfl) (fun _ _ _ h => h) ?_ (by assumption) ?_
            rotate_left
            · intro W hW
              go_simp
              with_reducible rfl
            try simp only [Act.put, List.setIfInBounds_toArray, List.set_cons_zero, List.set_cons_succ]
            refine wpAnyH_takeD (i := 2) (v := ?_) (some 63) rfl rfl rfl (by kernel_rfl) (by kernel_rfl) (by kernel_rfl) (fun _ _ _ h => h) ?_ (by assumption) ?_
            rotate_left
            · intro W hW
              go_simp
              with_reducible rfl
            try simp only [Act.put, List.setIfInBounds_toArray, List.set_cons_zero, List.set_cons_succ]
            refine wpAnyH_takeD (i := 3) (v := ?_) (some 64) rfl rfl rfl (by kernel_rfl) (by kernel_rfl) (by kernel_rfl) (fun _ _ _ h => h) ?_ (by assumption) ?_
            rotate_left
            · intro W hW
              go_simp
              with_reducible rfl
            try simp only [Act.put, List.setIfInBounds_toArray, List.set_cons_zero, List.set_cons_succ]
            refine wpAnyH_takeD (i := 4) (v := ?_) (some 65) rfl rfl rfl (by kernel_rfl) (by kernel_rfl) (by kernel_rfl) (fun _ _ _ h => h) ?_ (by assumption) ?_
            rotate_left
            · intro W hW
              obtain ⟨b9, o9, ho9, i0c, i1c, i2c, i3c⟩ := (HITW.out _ (HR.out.step hW).below) k _ HX.out
              injection ho9 with ho9
              injection ho9 with hb9 ho9 _
              subst hb9
              subst ho9
              dsimp only at i0c i1c i2c i3c
              go_simp
              with_reducible rfl
            try simp only [Act.put, List.setIfInBounds_toArray, List.set_cons_zero, List.set_cons_succ]
            refine name_act (fun A hA => ?_)
            have Q0 : Below wr.heap.size wr wr.drew := hHeld
            clear hHeld
            refine (made_step (p := 11) (q := 12) (c := 5) (dp := 14) (dq := 15) (zp := (.cells #[.int .i64 0, .slice none 0 0, .int .i64 0] 26)) (zq := (.cells #[.string ⟨#[]⟩, .string ⟨#[]⟩, .bool false] 47)) ⟨⟨_, rfl, rfl, rfl, fun ρ W => by go_simp⟩⟩ ⟨⟨_, rfl, rfl, rfl, fun ρ W => by go_simp⟩⟩ (J := (fun fp fq a W => a = A ∧ Below wr.heap.size wr W ∧ ZO wr.heap.size (.cells #[.int .i64 0, .slice none 0 0, .int .i64 0] 26) fp W ∧ ZO wr.heap.size (.cells #[.string ⟨#[]⟩, .string ⟨#[]⟩, .bool false] 47) fq W)) (J' := (fun fp fq a W => ∃ lo2 ln2 lc2, a = A.put (some 66) (.tuple #[.agg #[.int .i64 s1, .slice lo2 ln2 lc2, .int .i64 cp], .agg #[.string s3.name, .string s3.value, .bool s3.never], .bool s4, .int .i64 s5]) ∧ s2.length = ln2 ∧ ln2 ≤ lc2 ∧ ((lo2 = lo ∧ s2 = Lk) ∨ ∀ a, lo2 = some a → wr.heap.size ≤ a.block) ∧ (FieldsN W lo2 s2 ∧ SepP lo2 s2 fp ∧ SepP lo2 s2 fq) ∧ Below wr.heap.size wr W ∧ ZO wr.heap.size (.cells #[.int .i64 0, .slice none 0 0, .int .i64 0] 26) fp W ∧ ZO wr.heap.size (.cells #[.string ⟨#[]⟩, .string ⟨#[]⟩, .bool false] 47) fq W)) (L := (fun b b' => #[true, true, true, true, true, false, false, false, false, false, false, b, b', false, false, false, false])) (L' := (fun b b' => #[true, true, true, true, true, true, false, false, false, false, false, b, b', false, false, false, false]))
              (by intro b; cases b <;> rfl) (by intro b; cases b <;> rfl) (by intro b b'; cases b <;> cases b' <;> rfl) (by kernel_rfl) (by kernel_rfl) (by kernel_rfl) (by kernel_rfl) (by decide) rfl (by kernel_rfl) (by kernel_rfl) (by simp) (by simp) (by simp) (fun d v c a w h => h)
              (fun fq a W h => ⟨h.1, h.2.1.trans ((below_new _).mono h.2.1.size), ZO.made _ h.2.1.size, h.2.2.2.alloc _⟩) (fun fp a W h => ⟨h.1, h.2.1.trans ((below_new _).mono h.2.1.size), h.2.2.1.alloc _, ZO.made _ h.2.1.size⟩) ?_ (fun _ _ _ _ h => h.2.1) (fun _ _ _ _ ⟨_, _, _, _, _, _, _, _, h, _, _⟩ => h) 9 ?_) none none A wr.drew ⟨rfl, Q0, ZO.none _ _ _, ZO.none _ _ _⟩
            · rintro fp fq a W ⟨rfl, hv, hz, hy⟩
              refine wpOp_call (HSTP.out W ((HR.out.step hv).fl)) rfl rfl rfl (by rw [hA]; go_simp) ?_
              rintro e W' ⟨lo2, ln2, lc2, rfl, hlen, hcb, hfn, hpos, hb⟩
              exact ⟨_, rfl, lo2, ln2, lc2, rfl, hlen, hcb, pos_mono hpos hv.size, ⟨hfn, SepP.mk hz hpos (fun a ha hne => fields_lt HR.out.fl a ha hne), SepP.mk hy hpos (fun a ha hne => fields_lt HR.out.fl a ha hne)⟩, hv.trans (hb.mono hv.size), hz.step hb, hy.step hb⟩
            rintro fp fq a W ⟨lo2, ln2, lc2, rfl, hlen, hcb, hpos, hfn, hv, hz, hy⟩
            have HLN := Lib.hid (And.intro hlen (And.intro hcb hpos))
            have q3 : (FieldsN W lo2 s2 ∧ SepP lo2 s2 fp ∧ SepP lo2 s2 fq) ∧ Below wr.heap.size wr W ∧ ZO wr.heap.size (.cells #[.int .i64 0, .slice none 0 0, .int .i64 0] 26) fp W ∧ ZO wr.heap.size (.cells #[.string ⟨#[]⟩, .string ⟨#[]⟩, .bool false] 47) fq W := ⟨hfn, hv, hz, hy⟩
            clear hlen hcb hpos hfn hv hz hy
            revert q3
            revert W
            revert fq
            revert fp
            refine made_take (c := 6) (dp := 14) (dq := 15) (d := 60) (v := (.tuple #[.agg #[.int .i64 s1, .slice lo2 ln2 lc2, .int .i64 cp], .agg #[.string s3.name, .string s3.value, .bool s3.never], .bool s4, .int .i64 s5])) (J := (fun fp fq W => (FieldsN W lo2 s2 ∧ SepP lo2 s2 fp ∧ SepP lo2 s2 fq) ∧ Below wr.heap.size wr W ∧ ZO wr.heap.size (.cells #[.int .i64 0, .slice none 0 0, .int .i64 0] 26) fp W ∧ ZO wr.heap.size (.cells #[.string ⟨#[]⟩, .string ⟨#[]⟩, .bool false] 47) fq W)) (L := (fun b b' => #[true, true, true, true, true, true, false, false, false, false, false, b, b', false, false, false, false])) (L' := (fun b b' => #[true, true, true, true, true, true, true, false, false, false, false, b, b', false, false, false, false]))
              (by intro b b'; cases b <;> cases b' <;> rfl) (by intro b b'; cases b <;> cases b' <;> kernel_rfl) (by intro b b'; cases b <;> cases b' <;> kernel_rfl) rfl rfl rfl (by kernel_rfl) (by kernel_rfl) (by decide) (by decide) (by kernel_rfl) (fun c a w h => h) (by intro W _; rw [hA]; simp only [Act.put, List.setIfInBounds_toArray, List.set_cons_zero, List.set_cons_succ]; go_simp) (fun _ _ _ h => h.2.1) 8 ?_
            refine made_take (c := 7) (dp := 14) (dq := 15) (d := 67) (v := (.agg #[.int .i64 s1, .slice lo2 ln2 lc2, .int .i64 cp])) (J := (fun fp fq W => (FieldsN W lo2 s2 ∧ SepP lo2 s2 fp ∧ SepP lo2 s2 fq) ∧ Below wr.heap.size wr W ∧ ZO wr.heap.size (.cells #[.int .i64 0, .slice none 0 0, .int .i64 0] 26) fp W ∧ ZO wr.heap.size (.cells #[.string ⟨#[]⟩, .string ⟨#[]⟩, .bool false] 47) fq W)) (L := (fun b b' => #[true, true, true, true, true, true, true, false, false, false, false, b, b', false, false, false, false])) (L' := (fun b b' => #[true, true, true, true, true, true, true, true, false, false, false, b, b', false, false, false, false]))
              (by intro b b'; cases b <;> cases b' <;> rfl) (by intro b b'; cases b <;> cases b' <;> kernel_rfl) (by intro b b'; cases b <;> cases b' <;> kernel_rfl) rfl rfl rfl (by kernel_rfl) (by kernel_rfl) (by decide) (by decide) (by kernel_rfl) (fun c a w h => h) (by intro W _; rw [hA]; simp only [Act.put, List.setIfInBounds_toArray, List.set_cons_zero, List.set_cons_succ]; go_simp) (fun _ _ _ h => h.2.1) 7 ?_
            refine made_take (c := 8) (dp := 14) (dq := 15) (d := 68) (v := (.agg #[.string s3.name, .string s3.value, .bool s3.never])) (J := (fun fp fq W => (FieldsN W lo2 s2 ∧ SepP lo2 s2 fp ∧ SepP lo2 s2 fq) ∧ Below wr.heap.size wr W ∧ ZO wr.heap.size (.cells #[.int .i64 0, .slice none 0 0, .int .i64 0] 26) fp W ∧ ZO wr.heap.size (.cells #[.string ⟨#[]⟩, .string ⟨#[]⟩, .bool false] 47) fq W)) (L := (fun b b' => #[true, true, true, true, true, true, true, true, false, false, false, b, b', false, false, false, false])) (L' := (fun b b' => #[true, true, true, true, true, true, true, true, true, false, false, b, b', false, false, false, false]))
              (by intro b b'; cases b <;> cases b' <;> rfl) (by intro b b'; cases b <;> cases b' <;> kernel_rfl) (by intro b b'; cases b <;> cases b' <;> kernel_rfl) rfl rfl rfl (by kernel_rfl) (by kernel_rfl) (by decide) (by decide) (by kernel_rfl) (fun c a w h => h) (by intro W _; rw [hA]; simp only [Act.put, List.setIfInBounds_toArray, List.set_cons_zero, List.set_cons_succ]; go_simp) (fun _ _ _ h => h.2.1) 6 ?_
            refine made_take (c := 9) (dp := 14) (dq := 15) (d := 69) (v := (.bool s4)) (J := (fun fp fq W => (FieldsN W lo2 s2 ∧ SepP lo2 s2 fp ∧ SepP lo2 s2 fq) ∧ Below wr.heap.size wr W ∧ ZO wr.heap.size (.cells #[.int .i64 0, .slice none 0 0, .int .i64 0] 26) fp W ∧ ZO wr.heap.size (.cells #[.string ⟨#[]⟩, .string ⟨#[]⟩, .bool false] 47) fq W)) (L := (fun b b' => #[true, true, true, true, true, true, true, true, true, false, false, b, b', false, false, false, false])) (L' := (fun b b' => #[true, true, true, true, true, true, true, true, true, true, false, b, b', false, false, false, false]))
              (by intro b b'; cases b <;> cases b' <;> rfl) (by intro b b'; cases b <;> cases b' <;> kernel_rfl) (by intro b b'; cases b <;> cases b' <;> kernel_rfl) rfl rfl rfl (by kernel_rfl) (by kernel_rfl) (by decide) (by decide) (by kernel_rfl) (fun c a w h => h) (by intro W _; rw [hA]; simp only [Act.put, List.setIfInBounds_toArray, List.set_cons_zero, List.set_cons_succ]; go_simp) (fun _ _ _ h => h.2.1) 5 ?_
            refine made_take (c := 10) (dp := 14) (dq := 15) (d := 70) (v := (.int .i64 s5)) (J := (fun fp fq W => (FieldsN W lo2 s2 ∧ SepP lo2 s2 fp ∧ SepP lo2 s2 fq) ∧ Below wr.heap.size wr W ∧ ZO wr.heap.size (.cells #[.int .i64 0, .slice none 0 0, .int .i64 0] 26) fp W ∧ ZO wr.heap.size (.cells #[.string ⟨#[]⟩, .string ⟨#[]⟩, .bool false] 47) fq W)) (L := (fun b b' => #[true, true, true, true, true, true, true, true, true, true, false, b, b', false, false, false, false])) (L' := (fun b b' => #[true, true, true, true, true, true, true, true, true, true, true, b, b', false, false, false, false]))
              (by intro b b'; cases b <;> cases b' <;> rfl) (by intro b b'; cases b <;> cases b' <;> kernel_rfl) (by intro b b'; cases b <;> cases b' <;> kernel_rfl) rfl rfl rfl (by kernel_rfl) (by kernel_rfl) (by decide) (by decide) (by kernel_rfl) (fun c a w h => h) (by intro W _; rw [hA]; simp only [Act.put, List.setIfInBounds_toArray, List.set_cons_zero, List.set_cons_succ]; go_simp) (fun _ _ _ h => h.2.1) 4 ?_
            refine made_last (p := 11) (q := 12) (dp := 14) (dq := 15) (zp := (.cells #[.int .i64 0, .slice none 0 0, .int .i64 0] 26)) (zq := (.cells #[.string ⟨#[]⟩, .string ⟨#[]⟩, .bool false] 47)) ⟨⟨_, rfl, rfl, rfl, fun ρ W => by go_simp⟩⟩ ⟨⟨_, rfl, rfl, rfl, fun ρ W => by go_simp⟩⟩ (L := (fun b b' => #[true, true, true, true, true, true, true, true, true, true, true, b, b', false, false, false, false])) (by intro b; cases b <;> rfl) (by intro b; cases b <;> rfl) (by kernel_rfl) (by kernel_rfl) (by kernel_rfl) (by decide)
              (fun fq W h => ⟨⟨h.1.1.below (below_new _), SepP.made h.1.1, h.1.2.2⟩, h.2.1.trans ((below_new _).mono h.2.1.size), ZO.made _ h.2.1.size, h.2.2.2.alloc _⟩) (fun fp W h => ⟨⟨h.1.1.below (below_new _), h.1.2.1, SepP.made h.1.1⟩, h.2.1.trans ((below_new _).mono h.2.1.size), h.2.2.1.alloc _, ZO.made _ h.2.1.size⟩) (fun _ _ _ h => h.2.1) 4 ?_
            rintro g14 g15 W ⟨⟨hfn, hs7, hs8⟩, hv, hz, hy⟩
            have HS78 := Lib.hid (And.intro (hs7 g14 rfl) (hs8 g15 rfl))
            clear hs7 hs8
            have Z7 := hz g14 rfl
            have Z8 := hy g15 rfl
            have H7 := Lib.hid Z7.1
            have H8 := Lib.hid Z8.1
            have HG := Lib.hid (And.intro Z7.2 Z8.2)
            have HNE := Lib.hid (show g14 ≠ g15 from fun e => by have h1 := Z7.1; have h2 := Z8.1; rw [e] at h1; rw [h1] at h2; injection h2 with h2; injection h2 with h2 _ _; injection h2 with h2; cases h2)
            have HFN := Lib.hid hfn
            have HV := Lib.hid hv
            clear hz hy hfn hv Z7 Z8
            have hb7 := HG.out.1
            have hb8 := HG.out.2
            simp only [putO, hA, Act.put, List.setIfInBounds_toArray, List.set_cons_zero, List.set_cons_succ]
            clear hA
            have HR7 := Lib.hid (setRow_heap W g14 _ #[.int .i64 s1, .slice lo2 ln2 lc2, .int .i64 cp] _ _ H7.out)
            have HF8 := Lib.hid ((setRow_other W g14 g15 #[.int .i64 s1, .slice lo2 ln2 lc2, .int .i64 cp] HNE.out.symm).trans H8.out)
            refine wpAnyH_store (i := 13) (by kernel_rfl) rfl rfl rfl _ _ _ rfl g14 #[.int .i64 s1, .slice lo2 ln2 lc2, .int .i64 cp] rfl rfl 26 _ H7.out (by kernel_rfl) rfl (by kernel_rfl) (below_row HV.out (by omega) _) (fun hHeld => ?_)
            refine wpAnyH_store (i := 14) (by kernel_rfl) rfl rfl rfl _ _ _ rfl g15 #[.string s3.name, .string s3.value, .bool s3.never] rfl rfl 47 _ HF8.out (by kernel_rfl) rfl (by kernel_rfl) (below_row hHeld (by omega) _) (fun hHeld => ?_)
            refine wpAnyH_takeD (i := 15) (v := ?_) (some 16) rfl rfl rfl (by kernel_rfl) (by kernel_rfl) (by kernel_rfl) (fun _ _ _ h => h) ?_ (by assumption) ?_
            rotate_left
            · intro W hW
              go_simp
              with_reducible rfl
            try simp only [Act.put, List.setIfInBounds_toArray, List.set_cons_zero, List.set_cons_succ]
            refine wpAnyH_takeD (i := 16) (v := ?_) (some 17) rfl rfl rfl (by kernel_rfl) (by kernel_rfl) (by kernel_rfl) (fun _ _ _ h => h) ?_ (by assumption) ?_
            rotate_left
            · intro W hW
              go_simp
              with_reducible rfl
            try simp only [Act.put, List.setIfInBounds_toArray, List.set_cons_zero, List.set_cons_succ]
            refine wpAnyH_done (by kernel_rfl) ?_ _
            have HVV := Lib.hid hHeld
            clear hHeld hb7 hb8
            go_wp2_with fail
            go_meet
            exact ⟨g14, g15, lo2, ln2, lc2, rfl, rfl, rfl, rfl, HG.out.1, HG.out.2, (setRow_other _ _ _ _ HNE.out).trans HR7.out, setRow_heap _ _ _ _ _ _ HF8.out, HLN.out.1, HLN.out.2.1, HLN.out.2.2, (HFN.out.setRow (fun hne a ha => HS78.out.1 a ha hne) _).setRow (fun hne a ha => HS78.out.2 a ha hne) _, HVV.out⟩
          case rest =>
            obtain ⟨g14, g15, lo2, ln2, lc2, rfl, rfl, rfl, rfl, hg14, hg15, h14, h15, hlen, hcb, hpos, hfn, hbel⟩ := hcut
            have H14 := Lib.hid h14
            have H15 := Lib.hid h15
            have HL2 := Lib.hid (And.intro hlen (And.intro hcb hpos))
            have HFN := Lib.hid hfn
            have HWR := Lib.hid (show wi.heap.size < wr.heap.size from HR.out.gt)
            have HVL := Lib.hid (HR.out.vlt)
            have HAP := Lib.hid (HR.out.apart hpos)
            replace HR := Lib.hid (HR.out.step hbel)
            replace HH := Lib.hid (HHW.out _ HR.out.below)
            have HG14 := Lib.hid (And.intro hg14 hg15)
            clear h14 h15 hlen hcb hpos hfn hbel hg14 hg15
            by_cases hs5 : s5 = 0
            · subst hs5
              replace HRU := Lib.hid ((if_neg (by simp)).symm.trans HRU.out)
              have HCK2 := Lib.hid (HSTC.out rfl)
              have HBN := Lib.hid (HBGN.out rfl)
              clear HSTC HBGN
              cases s4
              · replace HRU := Lib.hid ((if_neg (by simp)).symm.trans HRU.out)
                replace HBN := Lib.hid (show bg = bgF its (k + 1) from HBN.out)
                have HRN := Lib.hid (HR.out.turn HL2.out.1 HL2.out.2.1 HFN.out HAP.out HCK2.out)
                have HSP2 := Lib.hid (show ∀ a, lo2 = some a → s2 ≠ [] → a.block ≠ w.heap.size + 1 from fun a ha hne => by
                  rcases HL2.out.2.2 with ⟨e1, e2⟩ | hp
                  · exact HSP.out a (e1 ▸ ha) (e2 ▸ hne)
                  · have := hp a ha; have := HWR.out; have := HGW.out; omega)
                have HRW := Lib.hid HR.out.row
                have t0 := H14.out.c0
                have t1 := H14.out.c1
                have t2 := H14.out.c2
                go_wp2_with (first | (refine wpList_store_row rfl _ _ _ rfl wi.heap.size #[.int .i64 s1, .slice lo2 ln2 lc2, .int .i64 cp] rfl rfl _ _ HRW.out (by kernel_rfl) rfl (by kernel_rfl) ?_))
                go_roundw
                case rel => exact ⟨k + 1, s1, s2, lo2, ln2, lc2, bg, out, _, rfl, by go_num, by omega, by have := HOL.out; omega, HRN.out, HSP2.out, HBN.out, HRU.out⟩
                case measure => simp [intOf]; omega
              · replace HRU := Lib.hid ((if_pos rfl).symm.trans HRU.out)
                replace HBN := Lib.hid (show true = bgF its (k + 1) from HBN.out)
                have f0 := H15.out.c0
                have f1 := H15.out.c1
                have f2 := H15.out.c2
                have HONE := Lib.hid (show ∀ u ∈ [Value.string s3.name, .string s3.value, .bool s3.never], u.oneCell' = true from by intro u hu; simp at hu; rcases hu with rfl | rfl | rfl <;> rfl)
                go_upto_region 18 with fail
                have HRA := Lib.hid (HR.out.step ((Below.refl _ _).alloc (Nat.le_refl _) (.cells #[.string s3.name, .string s3.value, .bool s3.never] 47)))
                have HSZ8 := Lib.hid (show wi.heap.size + 1 ≤ (wc.alloc (.cells #[.string s3.name, .string s3.value, .bool s3.never] 47)).heap.size from HRA.out.gt)
                have HFA := Lib.hid (HFN.out.below (below_new (W := wc) (.cells #[.string s3.name, .string s3.value, .bool s3.never] 47)))
                have H14A := Lib.hid (H14.out.step (below_new (W := wc) (.cells #[.string s3.name, .string s3.value, .bool s3.never] 47)))
                have HLTA := Lib.hid (show ∀ a, lo2 = some a → s2 ≠ [] → a.block < (wc.alloc (.cells #[.string s3.name, .string s3.value, .bool s3.never] 47)).heap.size from fun a ha hne => fields_lt HFA.out a ha hne)
                go_upto_region 19 with (first | (at_builtin; refine wpList_append_own_at _ rfl _ _ 22 rfl (wi.heap.size + 1) 47 i0 _ 3 40 Tryz.underlying22 HI.out HZ0.out HZ1.out HZ2.out rfl (by omega) _ _ _ rfl HRA.out.own ⟨wc.heap.size, 0, none⟩ 1 1 [Value.string s3.name, .string s3.value, .bool s3.never] rfl rfl (cells_new wc [Value.string s3.name, .string s3.value, .bool s3.never] _) HONE.out (by unfold maxLen; have := HOL.out; have := HK.out; omega) (by have := HOL.out; have := HK.out; omega) HSZ8.out ?_; intro v9 w9 hown9 hg9 _ hat9; have HR9 := Lib.hid (HRA.out.told HSTL.out hg9 (by unfold OwnF; rw [fcells_append, List.length_append]; exact (by simpa [fcells, Fld.cells] using hown9)) hat9); have HGR := Lib.hid (And.intro hg9 hat9); clear hown9 hg9 hat9))
                clear f0 f1 f2
                replace HFN := Lib.hid (HFA.out.grown HGR.out.1 (fun hne a ha e => (HAP.out a ha hne).2 _ e.symm rfl))
                replace H14 := Lib.hid (show SRow 26 w9 g14 s1 (.slice lo2 ln2 lc2) cp from (HGR.out.1.block _ H14A.out.lt (fun e => by have := HVL.out _ e.symm; have := HG14.out.1; omega)).trans H14A.out)
                replace HAP := Lib.hid (show ∀ a, lo2 = some a → s2 ≠ [] → a.block ≠ wi.heap.size ∧ ∀ g, v9.ownBlock = some g → a.block ≠ g from fun a ha hne => ⟨(HAP.out a ha hne).1, fun g hg => by
                  rcases HGR.out.2 with e | e
                  · exact (HAP.out a ha hne).2 g (e ▸ hg)
                  · have e2 := e.symm.trans hg
                    injection e2 with e2
                    have := HLTA.out a ha hne
                    omega⟩)
                replace HR := HR9
                clear HRA HSZ8 HFA H14A HLTA HR9 HGR HVL
                have HRN := Lib.hid (HR.out.turn HL2.out.1 HL2.out.2.1 HFN.out HAP.out HCK2.out)
                have HSP2 := Lib.hid (show ∀ a, lo2 = some a → s2 ≠ [] → a.block ≠ w.heap.size + 1 from fun a ha hne => by
                  rcases HL2.out.2.2 with ⟨e1, e2⟩ | hp
                  · exact HSP.out a (e1 ▸ ha) (e2 ▸ hne)
                  · have := hp a ha; have := HWR.out; have := HGW.out; omega)
                have HRW := Lib.hid HR.out.row
                have t0 := H14.out.c0
                have t1 := H14.out.c1
                have t2 := H14.out.c2
                go_wp2_with (first | (refine wpList_store_row rfl _ _ _ rfl wi.heap.size #[.int .i64 s1, .slice lo2 ln2 lc2, .int .i64 cp] rfl rfl _ _ HRW.out (by kernel_rfl) rfl (by kernel_rfl) ?_))
                go_roundw
                case rel => exact ⟨k + 1, s1, s2, lo2, ln2, lc2, true, out ++ [s3], _, rfl, by go_num, by omega, by have := HOL.out; simp; omega, HRN.out, HSP2.out, HBN.out, HRU.out⟩
                case measure => simp [intOf]; omega
            · have HE := Lib.hid ((if_pos hs5).symm.trans HRU.out)
              have q5 : (s5 == 0) = false := beq_eq_false_iff_ne.2 hs5
              have q6 : (s5 != 0) = true := by rw [bne, q5]; rfl
              have HBK := Lib.hid (show R = (mx, L, [], false, s5) from by rw [HBK0.out, ← HE.out]; exact if_pos hs5)
              clear HBK0 HE HRU HSTC HBGN hs5
              have c0 := HH.out.st.c0
              have c1 := HH.out.st.c1
              have c2 := HH.out.st.c2
              go_wp2_with (first | (refine wpList_store_row rfl _ _ _ rfl (w.heap.size + 1) #[.int .i64 mx, .slice oa n cap, .int .i64 cp] rfl rfl _ _ HH.out.rs (by kernel_rfl) rfl (by kernel_rfl) ?_))
              try rw [Exit.noGoto_ret]
              exact bodyPost_ret (v := .tuple #[.agg #[.int .i64 mx, .slice oa n cap, .int .i64 cp], .slice none 0 0, .bool false, .int .i64 s5]) (res_cell4 rfl _ _ (w.heap.size + 1) _ _ (0, 0) _ rfl (setRow_heap _ _ _ _ _ _ HH.out.rs) Tryz.underlying26 rfl (by kernel_rfl) _ _ _ rfl rfl rfl) rfl
                ⟨oa, n, cap, none, 0, 0, by rw [HBK.out], by rw [HBK.out]; exact HN.out, hnc, by rw [HBK.out]; exact HFW.out _ (below_row HH.out.below (by omega) _), by rw [HBK.out]; rfl, Nat.le_refl _, by rw [HBK.out]; exact FieldsN.nil _ _, below_row HH.out.below (by omega) _⟩
    · obtain rfl : k = N := by omega
      have q1 : decide ((k : Int) < (k : Int)) = false := by simp
      have HE := Lib.hid (show (mk, Lk, out, 0) = T from by have := HRUN.out; rw [List.drop_of_length_le (by rw [HNI.out]; exact Nat.le_refl _)] at this; exact this)
      have HBK := Lib.hid (show R = if 1024 < sumF out then (mk, Lk, [], false, 0) else (mk, Lk, out, true, 0) from by rw [HBK0.out, ← HE.out]; rfl)
      clear HBK0 HE HRUN
      have HBW := Lib.hid HR.out
      obtain ⟨oo, co, hvo, hfo, hoc, _, _⟩ := HR.out.own.form
      have HFO := Lib.hid hfo
      have HOC := Lib.hid hoc
      generalize hno : out.length = no at hvo HOC
      have HNO := Lib.hid hno
      obtain rfl := hvo
      have HSZ := Lib.hid (fun W hW => sum_any oo no co out HNO.out HR.out.light (by have := HK.out; have := HOL.out; have := HNO.out; omega) W hW)
      have r0 := HR.out.row.c0
      have r1 := HR.out.row.c1
      have r2 := HR.out.row.c2
      have HGI := Lib.hid (show w.heap.size + 1 < wi.heap.size from HGW.out)
      clear hfo hoc hno
      by_cases hbig : 1024 < sumF out
      · have q6 : decide ((1024 : Int) < (sumF out : Nat)) = true := decide_eq_true (by omega)
        have HBK2 := Lib.hid (HBK.out.trans (if_pos hbig))
        generalize sumF out = S at HSZ q6
        clear hbig HBK
        go_wp2_with (first | (go_at_call 23; refine (HSZ.out _ HFO.out).mono ?_; rintro e w9 ⟨rfl, hb⟩; replace HR := Lib.hid (HR.out.step hb); replace HH := Lib.hid (HH.out.step hb); replace HFO := Lib.hid (HFO.out.below hb); clear hb; have r0 := HR.out.row.c0; have r1 := HR.out.row.c1; have r2 := HR.out.row.c2) | (refine wpList_store_row rfl _ _ _ rfl (w.heap.size + 1) #[.int .i64 mk, .slice lo ln lc, .int .i64 cp] rfl rfl _ _ HH.out.rs (by kernel_rfl) rfl (by kernel_rfl) ?_))
        have HNE := Lib.hid (show Lk ≠ [] → ∀ a, lo = some a → a.block ≠ w.heap.size + 1 from fun hne a ha => HSP.out a ha hne)
        try rw [Exit.noGoto_ret]
        exact bodyPost_ret (v := .tuple #[.agg #[.int .i64 mk, .slice lo ln lc, .int .i64 cp], .slice none 0 0, .bool false, .int .i64 0]) (res_cell4 rfl _ _ (w.heap.size + 1) _ _ (0, 0) _ rfl (setRow_heap _ _ _ _ _ _ HH.out.rs) Tryz.underlying26 rfl (by kernel_rfl) _ _ _ rfl rfl rfl) rfl
          ⟨lo, ln, lc, none, 0, 0, by rw [HBK2.out], by rw [HBK2.out]; exact HR.out.len, HR.out.cap, by rw [HBK2.out]; exact HR.out.fl.setRow HNE.out _, by rw [HBK2.out]; rfl, Nat.le_refl _, by rw [HBK2.out]; exact FieldsN.nil _ _, below_row HH.out.below (by omega) _⟩
      · have q6 : decide ((1024 : Int) < (sumF out : Nat)) = false := decide_eq_false (by omega)
        have HBK2 := Lib.hid (HBK.out.trans (if_neg hbig))
        generalize sumF out = S at HSZ q6
        clear hbig HBK
        go_wp2_with (first | (go_at_call 23; refine (HSZ.out _ HFO.out).mono ?_; rintro e w9 ⟨rfl, hb⟩; replace HR := Lib.hid (HR.out.step hb); replace HH := Lib.hid (HH.out.step hb); replace HFO := Lib.hid (HFO.out.below hb); clear hb; have r0 := HR.out.row.c0; have r1 := HR.out.row.c1; have r2 := HR.out.row.c2) | (refine wpList_store_row rfl _ _ _ rfl (w.heap.size + 1) #[.int .i64 mk, .slice lo ln lc, .int .i64 cp] rfl rfl _ _ HH.out.rs (by kernel_rfl) rfl (by kernel_rfl) ?_))
        have HNE := Lib.hid (show Lk ≠ [] → ∀ a, lo = some a → a.block ≠ w.heap.size + 1 from fun hne a ha => HSP.out a ha hne)
        have HNO2 := Lib.hid (show out ≠ [] → ∀ a, oo = some a → a.block ≠ w.heap.size + 1 from fun hne a ha => by
          obtain ⟨_, _, e, _, _, _, hx⟩ := HR.out.own.form
          injection e with e _ _
          have := (hx a (e ▸ ha)).1
          have := HGI.out
          omega)
        try rw [Exit.noGoto_ret]
        exact bodyPost_ret (v := .tuple #[.agg #[.int .i64 mk, .slice lo ln lc, .int .i64 cp], .slice oo no co, .bool true, .int .i64 0]) (res_cell4 rfl _ _ (w.heap.size + 1) _ _ (0, 0) _ rfl (setRow_heap _ _ _ _ _ _ HH.out.rs) Tryz.underlying26 rfl (by kernel_rfl) _ _ _ rfl rfl rfl) rfl
          ⟨lo, ln, lc, oo, no, co, by rw [HBK2.out], by rw [HBK2.out]; exact HR.out.len, HR.out.cap, by rw [HBK2.out]; exact HR.out.fl.setRow HNE.out _, by rw [HBK2.out]; exact HNO.out, by have := HOC.out; omega, by rw [HBK2.out]; exact HFO.out.setRow HNO2.out _, below_row HH.out.below (by omega) _⟩
theorem dblock_any (mx cp : Int) (oa : Option Addr) (n cap : Nat) (L : List Fld) (hn : L.length = n) (hnc : n ≤ cap) (hl : ∀ f ∈ L, lightF f = true) (hn30 : n ≤ 1000) (ob : Option Addr) (m capb : Nat) (bs : List Nat) (hm : bs.length = m) (hmc : m ≤ capb) (hm5 : m ≤ 100) (w : World) (hf : FieldsN w oa L) (hby : BytesN w ob bs) (hb256 : ∀ i, i < bs.length → bs.getD i 0 < 256) :
    Calls Tryz.prog 8 #[.agg #[.int .i64 mx, .slice oa n cap, .int .i64 cp], .slice ob m capb] w (BlkPost mx cp L bs w) := by
  by_cases h0 : hchk mx cp L = 0
  · by_cases h1 : (allG bs).2 = 0
    · exact dblock_yes mx cp oa n cap L hn hnc hl hn30 ob m capb bs hm hmc hm5 w hf hby hb256 h0 h1
    · exact dblock_no mx cp oa n cap L hn hnc hl hn30 ob m capb bs hm hmc hm5 w hf hby hb256 (.inr h1)
  · exact dblock_no mx cp oa n cap L hn hnc hl hn30 ob m capb bs hm hmc hm5 w hf hby hb256 (.inl h0)
end Go.Proofs.YteceinojmdgmeaaGreat

