/- The walks of RequestReads, RequestTexts, RequestFields. -/
import Derived.Test.YtecmccihldjicaaDoorReqW
import Derived.Deep.RegionHeld
namespace Go.Proofs.YtecmccihldjicaaDoor
open Go.RowKit
set_option linter.unusedVariables false
set_option linter.unusedSimpArgs false

theorem reqV_form (o : Option Rd) : ∃ (m s p h : ByteArray) (len rank : Int), reqV o = .agg #[.string m, .string s, .string p, .string h, .int .i64 len, .int .i64 rank] := by
  cases o with
  | none => exact ⟨_, _, _, _, _, _, rfl⟩
  | some r => exact ⟨_, _, _, _, _, _, rfl⟩
set_option maxRecDepth 100000 in
set_option maxHeartbeats 8000000 in
theorem reads_any (oa : Option Addr) (n cap : Nat) (L : List Fld) (hn : L.length = n) (hcap : n ≤ cap) (en : Bool) (w : World) (hT : Tab w) (hM : MaxC w) (hf : FieldsN w oa L) :
    Calls Tryd.prog 3 #[.slice oa n cap, .bool en] w fun e w' => e = .returned (.bool true) ∧ Below w.heap.size w w' := by
  have HTW := Lib.hid (show ∀ W, Below w.heap.size w W → Tab W from fun W hW => hT.below hW)
  have HMW := Lib.hid (show ∀ W, Below w.heap.size w W → MaxC W from fun W hW => hM.below hW)
  have HFW := Lib.hid (show ∀ W, Below w.heap.size w W → FieldsN W oa L from fun W hW => hf.below hW)
  have HLG := Lib.hid (light_any oa n cap L hn w hf)
  have HAW := Lib.hid (fun W (hW : Below w.heap.size w W) => awake17_any W (HTW.out W hW) (HMW.out W hW))
  have HBC := Lib.hid (Below.refl w.heap.size w)
  cases hl : light L with
  | false =>
    rw [hl] at HLG
    clear hT hM hf hl
    go_enter Tryd.func3, Tryd.ntmps3
    go_wp2_with (first
      | (go_at_call 8; refine HLG.out.mono ?_; rintro e w1 ⟨rfl, hw⟩; obtain rfl := hw.symm)
      | (go_at_call 9; refine (HAW.out _ HBC.out).mono ?_; rintro e w2 ⟨rfl, hb⟩; replace HBC := Lib.hid (bs_st HBC.out hb); clear hb))
    go_ret
    exact ⟨rfl, HBC.out⟩
  | true =>
    rw [hl] at HLG
    have hn30 := light_len hl
    rw [hn] at hn30
    have hla : L.all lightF = true := by unfold light at hl; simp only [Bool.and_eq_true] at hl; exact hl.2
    have HR := Lib.hid (fun W (hW : Below w.heap.size w W) => read_any oa n cap L hn (by omega) hla en W (HFW.out W hW) (HMW.out W hW))
    have HS := Lib.hid (fun W (hW : Below w.heap.size w W) => refRead_any oa n cap L hn (by omega) hcap hla en W (HFW.out W hW))
    have HU := Lib.hid (fun W (hW : Below w.heap.size w W) => trailers_any oa n cap L hn (by omega) hla W (HFW.out W hW))
    have HV := Lib.hid (fun W (hW : Below w.heap.size w W) => refTrailers_any oa n cap L hn (by omega) hla W (HFW.out W hW))
    obtain ⟨q1, q2⟩ := read_law L en
    rw [← q1, ← q2] at HS
    obtain ⟨m, s, p, h, len, rank, q3⟩ := reqV_form (readS L en)
    rw [q3] at HR HS
    generalize (readS L en).isSome = bi at HR HS
    generalize trailB L = bt at HU HV
    clear hT hM hf hl q1 q2 q3
    go_enter Tryd.func3, Tryd.ntmps3
    go_upto_region 4 with (first
      | (go_at_call 8; refine HLG.out.mono ?_; rintro e w1 ⟨rfl, hw⟩; obtain rfl := hw.symm)
      | (go_at_call 10; refine (HR.out _ HBC.out).mono ?_; rintro e w2 ⟨rfl, hb⟩; replace HBC := Lib.hid (bs_st HBC.out hb); clear hb))
    replace HBC := Lib.hid (HBC.out.alloc HBC.out.size (.cells #[.string m, .string s, .string p, .string h, .int .i64 len, .int .i64 rank] 26))
    have HQ := Lib.hid (show QRow 26 (w2.alloc (.cells #[.string m, .string s, .string p, .string h, .int .i64 len, .int .i64 rank] 26)) w2.heap.size m s p h len rank from heap_alloc_new w2 _)
    generalize w2.alloc (.cells #[.string m, .string s, .string p, .string h, .int .i64 len, .int .i64 rank] 26) = w3 at HBC HQ ⊢
    generalize w2.heap.size = g at HQ ⊢
    go_upto_region 5 with (first
      | (go_at_call 11; refine (HS.out _ HBC.out).mono ?_; rintro e w4 ⟨rfl, hb⟩; replace HBC := Lib.hid (bs_st HBC.out hb); replace HQ := Lib.hid (HQ.out.below hb HQ.out.lt); clear hb))
    replace HBC := Lib.hid (HBC.out.alloc HBC.out.size (.cells #[.string m, .string s, .string p, .string h, .int .i64 len, .int .i64 rank] 29))
    have HQ2 := Lib.hid (show QRow 29 (w4.alloc (.cells #[.string m, .string s, .string p, .string h, .int .i64 len, .int .i64 rank] 29)) w4.heap.size m s p h len rank from heap_alloc_new w4 _)
    replace HQ := Lib.hid (HQ.out.below ((Below.refl _ w4).alloc (Nat.le_refl _) (.cells #[.string m, .string s, .string p, .string h, .int .i64 len, .int .i64 rank] 29)) HQ.out.lt)
    generalize w4.alloc (.cells #[.string m, .string s, .string p, .string h, .int .i64 len, .int .i64 rank] 29) = w5 at HBC HQ HQ2 ⊢
    generalize w4.heap.size = g2 at HQ2 ⊢
    have y0 := cell_of_row _ g 0 _ _ _ HQ.out
    have y1 := cell_of_row _ g 1 _ _ _ HQ.out
    have y2 := cell_of_row _ g 2 _ _ _ HQ.out
    have y3 := cell_of_row _ g 3 _ _ _ HQ.out
    have y4 := cell_of_row _ g 4 _ _ _ HQ.out
    have y5 := cell_of_row _ g 5 _ _ _ HQ.out
    have z0 := cell_of_row _ g2 0 _ _ _ HQ2.out
    have z1 := cell_of_row _ g2 1 _ _ _ HQ2.out
    have z2 := cell_of_row _ g2 2 _ _ _ HQ2.out
    have z3 := cell_of_row _ g2 3 _ _ _ HQ2.out
    have z4 := cell_of_row _ g2 4 _ _ _ HQ2.out
    have z5 := cell_of_row _ g2 5 _ _ _ HQ2.out
    go_wp2_with (first
      | (go_at_call 12; refine (HU.out _ HBC.out).mono ?_; rintro e w6 ⟨rfl, hb⟩; replace HBC := Lib.hid (bs_st HBC.out hb); clear hb)
      | (go_at_call 13; refine (HV.out _ HBC.out).mono ?_; rintro e w' ⟨rfl, hw⟩; obtain rfl := hw)
      | (go_at_call 9; refine (HAW.out _ HBC.out).mono ?_; rintro e w7 ⟨rfl, hb⟩; replace HBC := Lib.hid (bs_st HBC.out hb); clear hb))
    go_ret
    exact ⟨rfl, HBC.out⟩
set_option maxRecDepth 100000 in
set_option maxHeartbeats 8000000 in
theorem texts17_any (s : ByteArray) (w : World) (hT : Tab w) (hM : MaxC w) (hs : s.size ≤ maxLen) :
    Calls Tryd.prog 4 #[.string s] w fun e w' => e = .returned (.bool true) ∧ Below w.heap.size w w' := by
  unfold maxLen at hs
  have HTW := Lib.hid (show ∀ W, Below w.heap.size w W → Tab W from fun W hW => hT.below hW)
  have HMW := Lib.hid (show ∀ W, Below w.heap.size w W → MaxC W from fun W hW => hM.below hW)
  have HAW := Lib.hid (fun W (hW : Below w.heap.size w W) => awake17_any W (HTW.out W hW) (HMW.out W hW))
  have HBC := Lib.hid (Below.refl w.heap.size w)
  clear hT hM
  by_cases h2 : 200 < s.size
  · have q1 : decide ((200 : Int) < (s.size : Int)) = true := decide_eq_true (by omega)
    have q2 : (200 : Int) < (s.size : Int) := by omega
    go_enter Tryd.func4, Tryd.ntmps4
    go_wp2_with (first
      | (go_at_call 9; refine (HAW.out _ HBC.out).mono ?_; rintro e w7 ⟨rfl, hb⟩; replace HBC := Lib.hid (bs_st HBC.out hb); clear hb))
    go_ret
    exact ⟨rfl, HBC.out⟩
  · have q1 : decide ((200 : Int) < (s.size : Int)) = false := decide_eq_false (by omega)
    have q2 : ¬ (200 : Int) < (s.size : Int) := by omega
    have H1 := Lib.hid (fun W => reqNumber s W (by unfold maxLen; omega))
    have H2 := Lib.hid (fun W => refNumber s W (by unfold maxLen; omega))
    have H3 := Lib.hid (fun W => token_any s W (by unfold maxLen; omega))
    have H4 := Lib.hid (fun W => refToken_any s W (by unfold maxLen; omega))
    have H5 := Lib.hid (fun W hW => rank_any s (by omega) W hW)
    have H6 := Lib.hid (fun W => refRank_any s (by omega) W)
    generalize numI s.data.toList = ni at H1 H2
    generalize numOk s.data.toList = no at H1 H2
    generalize nameS false s.data.toList = nb at H3 H4
    generalize rankS s.data.toList = rk at H5 H6
    go_enter Tryd.func4, Tryd.ntmps4
    go_wp2_with (first
      | (go_at_call 14; refine (H1.out _).mono ?_; rintro e w1 ⟨rfl, hb⟩; replace HBC := Lib.hid (bs_st HBC.out hb); clear hb)
      | (go_at_call 15; refine (H2.out _).mono ?_; rintro e w' ⟨rfl, hw⟩; obtain rfl := hw)
      | (go_at_call 16; refine (H3.out _).mono ?_; rintro e w3 ⟨rfl, hb⟩; replace HBC := Lib.hid (bs_st HBC.out hb); clear hb)
      | (go_at_call 17; refine (H4.out _).mono ?_; rintro e w' ⟨rfl, hw⟩; obtain rfl := hw)
      | (go_at_call 18; refine (H5.out _ (HMW.out _ HBC.out)).mono ?_; rintro e w5 ⟨rfl, hb⟩; replace HBC := Lib.hid (bs_st HBC.out hb); clear hb)
      | (go_at_call 19; refine (H6.out _).mono ?_; rintro e w' ⟨rfl, hw⟩; obtain rfl := hw)
      | (go_at_call 9; refine (HAW.out _ HBC.out).mono ?_; rintro e w7 ⟨rfl, hb⟩; replace HBC := Lib.hid (bs_st HBC.out hb); clear hb))
    go_ret
    exact ⟨rfl, HBC.out⟩
theorem sameL_refl : ∀ L : List Fld, sameL L L = true
  | [] => rfl
  | f :: t => by rw [sameL, sameL_refl t]; unfold eqF; simp
theorem fieldsQ_len (m s p h : ByteArray) (len rank : Int) : (fieldsQ m s p h len rank).length ≤ 6 := by
  unfold fieldsQ
  repeat' split
  all_goals simp
end Go.Proofs.YtecmccihldjicaaDoor
