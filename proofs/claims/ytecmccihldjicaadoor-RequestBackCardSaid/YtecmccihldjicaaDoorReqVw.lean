/- The walk of RequestBack. (printed by gen_reqback.py) -/
import Derived.Test.YtecmccihldjicaaDoorReqV
namespace Go.Proofs.YtecmccihldjicaaDoor
open Go.RowKit
set_option linter.unusedVariables false
set_option linter.unusedSimpArgs false

set_option maxRecDepth 100000 in
set_option maxHeartbeats 32000000 in
theorem back17_any (oa : Option Addr) (n cap : Nat) (L : List Fld) (hn : L.length = n) (hcap : n ≤ cap) (en : Bool) (more : ByteArray) (w : World) (hT : Tab w) (hM : MaxC w) (hf : FieldsN w oa L) (hmx : more.size ≤ maxLen) :
    Calls Tryd.prog 6 #[.slice oa n cap, .bool en, .string more] w fun e w' => e = .returned (.bool true) ∧ Below w.heap.size w w' := by
  unfold maxLen at hmx
  obtain ⟨i0, hi0, hz0, hz1, hz2⟩ := info_parts field_info
  have HI := Lib.hid hi0
  have HZ0 := Lib.hid hz0
  have HZ1 := Lib.hid hz1
  have HZ2 := Lib.hid hz2
  have HONE := Lib.hid (show ∀ (a b : ByteArray), ∀ u ∈ [Value.string a, .string b, .bool false], u.oneCell' = true from by intro a b u hu; simp at hu; rcases hu with rfl | rfl | rfl <;> rfl)
  have HTWO := Lib.hid (show ∀ (a b c d : ByteArray), ∀ u ∈ [Value.string a, .string b, .bool false, .string c, .string d, .bool false], u.oneCell' = true from by intro a b c d u hu; simp at hu; rcases hu with rfl | rfl | rfl | rfl | rfl | rfl <;> rfl)
  have HSZ := Lib.hid (show ∀ (wx : World) (o : Obj), w.heap.size ≤ wx.heap.size → w.heap.size ≤ (wx.alloc o).heap.size from by intro wx o h; simp; omega)
  have HTW := Lib.hid (show ∀ W, Below w.heap.size w W → Tab W from fun W hW => hT.below hW)
  have HMW := Lib.hid (show ∀ W, Below w.heap.size w W → MaxC W from fun W hW => hM.below hW)
  have HFW := Lib.hid (show ∀ W, Below w.heap.size w W → FieldsN W oa L from fun W hW => hf.below hW)
  have HLG := Lib.hid (light_any oa n cap L hn w hf)
  have HAW := Lib.hid (fun W (hW : Below w.heap.size w W) => awake17_any W (HTW.out W hW) (HMW.out W hW))
  have HBC := Lib.hid (Below.refl w.heap.size w)
  clear hi0 hz0 hz1 hz2 hT hM hf
  cases hl : light L with
  | false =>
    rw [hl] at HLG
    clear hl
    go_enter Tryd.func6, Tryd.ntmps6
    go_wp2_with (first | (go_at_call 8; refine HLG.out.mono ?_; rintro e w1 ⟨rfl, hw⟩; obtain rfl := hw.symm) | (go_at_call 9; refine (HAW.out _ HBC.out).mono ?_; rintro e w2 ⟨rfl, hb⟩; replace HBC := Lib.hid (bs_st HBC.out hb); clear hb))
    go_ret
    exact ⟨rfl, HBC.out⟩
  | true =>
    rw [hl] at HLG
    have hn30 := light_len hl
    rw [hn] at hn30
    have hla : L.all lightF = true := by unfold light at hl; simp only [Bool.and_eq_true] at hl; exact hl.2
    by_cases h60 : 60 < more.size
    · have q1 : decide ((60 : Int) < (more.size : Int)) = true := decide_eq_true (by omega)
      have q2 : (60 : Int) < (more.size : Int) := by omega
      clear hl hla
      go_enter Tryd.func6, Tryd.ntmps6
      go_wp2_with (first | (go_at_call 8; refine HLG.out.mono ?_; rintro e w1 ⟨rfl, hw⟩; obtain rfl := hw.symm) | (go_at_call 9; refine (HAW.out _ HBC.out).mono ?_; rintro e w2 ⟨rfl, hb⟩; replace HBC := Lib.hid (bs_st HBC.out hb); clear hb))
      go_ret
      exact ⟨rfl, HBC.out⟩
    have q1 : decide ((60 : Int) < (more.size : Int)) = false := decide_eq_false (by omega)
    have q2 : ¬ (60 : Int) < (more.size : Int) := by omega
    have HR := Lib.hid (fun W (hW : Below w.heap.size w W) => read_any oa n cap L hn (by omega) hla en W (HFW.out W hW) (HMW.out W hW))
    have HLA := Lib.hid hla
    clear hl hla
    cases hs : (readS L en).isSome with
    | false =>
      have hnn : readS L en = none := by simpa using hs
      rw [hnn] at HR
      change Hid (∀ W, Below w.heap.size w W → Calls _ _ _ W (fun e w' => e = .returned (.tuple #[.agg #[.string ⟨#[]⟩, .string ⟨#[]⟩, .string ⟨#[]⟩, .string ⟨#[]⟩, .int .i64 0, .int .i64 0], .bool false]) ∧ Below W.heap.size W w')) at HR
      clear hs hnn
      go_enter Tryd.func6, Tryd.ntmps6
      go_upto_region 4 with (first | (go_at_call 8; refine HLG.out.mono ?_; rintro e w1 ⟨rfl, hw⟩; obtain rfl := hw.symm) | (go_at_call 10; refine (HR.out _ HBC.out).mono ?_; rintro e w2 ⟨rfl, hb⟩; replace HBC := Lib.hid (bs_st HBC.out hb); clear hb))
      replace HBC := Lib.hid (HBC.out.alloc HBC.out.size (.cells #[.string ⟨#[]⟩, .string ⟨#[]⟩, .string ⟨#[]⟩, .string ⟨#[]⟩, .int .i64 0, .int .i64 0] 26))
      have HQ := Lib.hid (show QRow 26 (w2.alloc (.cells #[.string ⟨#[]⟩, .string ⟨#[]⟩, .string ⟨#[]⟩, .string ⟨#[]⟩, .int .i64 0, .int .i64 0] 26)) w2.heap.size ⟨#[]⟩ ⟨#[]⟩ ⟨#[]⟩ ⟨#[]⟩ 0 0 from heap_alloc_new w2 _)
      generalize w2.alloc (.cells #[.string ⟨#[]⟩, .string ⟨#[]⟩, .string ⟨#[]⟩, .string ⟨#[]⟩, .int .i64 0, .int .i64 0] 26) = w3 at HBC HQ ⊢
      generalize w2.heap.size = g at HQ ⊢
      have y0 := cell_of_row _ g 0 _ _ _ HQ.out
      have y1 := cell_of_row _ g 1 _ _ _ HQ.out
      have y2 := cell_of_row _ g 2 _ _ _ HQ.out
      have y3 := cell_of_row _ g 3 _ _ _ HQ.out
      have y4 := cell_of_row _ g 4 _ _ _ HQ.out
      have y5 := cell_of_row _ g 5 _ _ _ HQ.out
      go_wp2_with (first | (go_at_call 9; refine (HAW.out _ HBC.out).mono ?_; rintro e w4 ⟨rfl, hb⟩; replace HBC := Lib.hid (bs_st HBC.out hb); clear hb))
      go_ret
      exact ⟨rfl, HBC.out⟩
    | true =>
      obtain ⟨m, s, p, G⟩ := readS_is hs
      have QG := good_q G
      obtain ⟨z1, z2, z3, z4⟩ := good_size HLA.out G
      have hq := readS_good G
      have hq1 : reqV (readS L en) = .agg #[.string m, .string s, .string p, .string (goodR L m s p).h, .int .i64 (goodR L m s p).len, .int .i64 (goodR L m s p).rank] := hq.1
      rw [hq1, hq.2] at HR
      clear hq hq1 hs G
      generalize (goodR L m s p).h = hst at *
      generalize (goodR L m s p).len = len at *
      generalize (goodR L m s p).rank = rank at *
      have hlen : len ≤ 999999999 := by rcases QG.hl with h | ⟨k, h, hk⟩ <;> omega
      have hrk := QG.hr
      have hfl := fields_light z1 z2 z3 z4 (show len ≤ 1099511627776 by omega) (show rank ≤ 9 by omega)
      obtain ⟨k1, k2⟩ := back_self QG
      obtain ⟨k3, k4⟩ := back_x QG more
      have k5 := back_z en m s p hst len rank more
      have k6 := back_trail m s p hst len rank
      have HF := Lib.hid (fun W (hW : Below w.heap.size w W) => fields_any m s p hst len rank (by omega) (by omega) (by omega) W (HTW.out W hW))
      have hlq := fieldsQ_len m s p hst len rank
      have hne : fieldsQ m s p hst len rank ≠ [] := by unfold fieldsQ; simp
      have HTM := Lib.hid (fun W => refToken_any m W (by unfold maxLen; omega))
      have HTN := Lib.hid (fun W => token_any m W (by unfold maxLen; omega))
      generalize nameS false m.data.toList = bm at HTM HTN
      generalize fieldsQ m s p hst len rank = F at *
      have HLQ := Lib.hid hlq
      have HNE := Lib.hid hne
      obtain ⟨nF, hnF⟩ : ∃ k, F.length = k := ⟨_, rfl⟩
      have HNF := Lib.hid hnF
      have HNF1 : Hid ((F ++ [bX more]).length = nF + 1) := Lib.hid (by rw [List.length_append, hnF]; rfl)
      have HNF2 : Hid ((F ++ [bY, bZ more]).length = nF + 2) := Lib.hid (by rw [List.length_append, hnF]; rfl)
      have lx : lightF (bX more) = true := by unfold lightF; rw [Bool.and_eq_true]; exact ⟨decide_eq_true (by show (⟨#[120, 45]⟩ ++ more : ByteArray).size ≤ 200; rw [ByteArray.size_append]; have : (ByteArray.mk #[120, 45]).size = 2 := rfl; omega), rfl⟩
      have lz : lightF (bZ more) = true := by unfold lightF; rw [Bool.and_eq_true]; exact ⟨decide_eq_true (by show (⟨#[58]⟩ ++ more : ByteArray).size ≤ 200; rw [ByteArray.size_append]; have : (ByteArray.mk #[58]).size = 1 := rfl; omega), rfl⟩
      have ly : lightF bY = true := by decide
      have HR1 := Lib.hid (fun oa cap W (hW : Below w.heap.size w W) hf => read_any oa nF cap F hnF (by omega) hfl en W hf (HMW.out W hW))
      have HR2 := Lib.hid (fun oa cap W (hW : Below w.heap.size w W) hf => read_any oa (nF + 1) cap (F ++ [bX more]) HNF1.out (by omega) (by rw [List.all_append, hfl]; simp [lx]) en W hf (HMW.out W hW))
      have HR3 := Lib.hid (fun oa cap W (hW : Below w.heap.size w W) hf => read_any oa (nF + 2) cap (F ++ [bY, bZ more]) HNF2.out (by omega) (by rw [List.all_append, hfl]; simp [ly, lz]) en W hf (HMW.out W hW))
      have HTR := Lib.hid (fun oa cap W hf => trailers_any oa nF cap F hnF (by omega) hfl W hf)
      have HTX := Lib.hid (fun W => token_any (⟨#[120, 45]⟩ ++ more) W (by rw [ByteArray.size_append]; unfold maxLen; have : (ByteArray.mk #[120, 45]).size = 2 := rfl; omega))
      have ex : (ByteArray.mk #[120, 45] ++ more).data.toList = 120 :: 45 :: more.data.toList := bX_name more
      rw [ex] at HTX
      rw [k1, k2] at HR1
      rw [k3, k4] at HR2
      rw [k5] at HR3
      rw [k6] at HTR
      change Hid (∀ oa cap W, Below w.heap.size w W → FieldsN W oa (F ++ [bY, bZ more]) → Calls _ _ _ W (fun e w' => e = .returned (.tuple #[.agg #[.string ⟨#[]⟩, .string ⟨#[]⟩, .string ⟨#[]⟩, .string ⟨#[]⟩, .int .i64 0, .int .i64 0], .bool false]) ∧ Below W.heap.size W w')) at HR3
      obtain ⟨m3, s3, p3, h3, l3, r3, hx3⟩ : ∃ m3 s3 p3 h3 l3 r3, (if nameS false (120 :: 45 :: more.data.toList) = true then Value.agg #[.string m, .string s, .string p, .string hst, .int .i64 len, .int .i64 rank] else reqV none) = .agg #[.string m3, .string s3, .string p3, .string h3, .int .i64 l3, .int .i64 r3] := by
        split
        · exact ⟨_, _, _, _, _, _, rfl⟩
        · exact ⟨_, _, _, _, _, _, rfl⟩
      have HX3 := Lib.hid hx3
      rw [hx3] at HR2
      clear hx3
      generalize nameS false (120 :: 45 :: more.data.toList) = bt at HR2 HTX HX3
      clear k1 k2 k3 k4 k5 k6 hfl hlq hne hnF lx lz ly ex QG HLA hlen hrk
      go_enter Tryd.func6, Tryd.ntmps6
      go_upto_region 4 with (first | (go_at_call 8; refine HLG.out.mono ?_; rintro e w1 ⟨rfl, hw⟩; obtain rfl := hw.symm) | (go_at_call 10; refine (HR.out _ HBC.out).mono ?_; rintro e w2 ⟨rfl, hb⟩; replace HBC := Lib.hid (bs_st HBC.out hb); clear hb))
      replace HBC := Lib.hid (HBC.out.alloc HBC.out.size (.cells #[.string m, .string s, .string p, .string hst, .int .i64 len, .int .i64 rank] 26))
      have HQ := Lib.hid (show QRow 26 (w2.alloc (.cells #[.string m, .string s, .string p, .string hst, .int .i64 len, .int .i64 rank] 26)) w2.heap.size m s p hst len rank from heap_alloc_new w2 _)
      generalize w2.alloc (.cells #[.string m, .string s, .string p, .string hst, .int .i64 len, .int .i64 rank] 26) = w3 at HBC HQ ⊢
      generalize w2.heap.size = g at HQ ⊢
      have y0 := cell_of_row _ g 0 _ _ _ HQ.out
      have y1 := cell_of_row _ g 1 _ _ _ HQ.out
      have y2 := cell_of_row _ g 2 _ _ _ HQ.out
      have y3 := cell_of_row _ g 3 _ _ _ HQ.out
      have y4 := cell_of_row _ g 4 _ _ _ HQ.out
      have y5 := cell_of_row _ g 5 _ _ _ HQ.out
      go_upto_region 7 with (first | (go_at_call 21; refine (HF.out _ HBC.out).mono ?_; rintro e w4 ⟨v, rfl, ho, hb⟩; obtain ⟨gF, cF, hv, hg1, hg2⟩ := ho.some HNE.out; rw [HNF.out] at hv; obtain rfl := hv; have HGF := Lib.hid hg1; have HA : Hid (Bk w w4 g gF nF cF F m s p hst len rank) := Lib.hid ⟨HQ.out.below hb HQ.out.lt, ho.mono HBC.out.size, (by have := HQ.out.lt; omega), Nat.le_trans HBC.out.size hg1, hg2, bs_st HBC.out hb⟩; clear ho hb hg1 hg2))
      clear y0 y1 y2 y3 y4 y5 HBC HQ HF
      go_upto_region 8 with (first | (go_at_call 10; refine (HR1.out _ _ _ HA.out.below HA.out.fields).mono ?_; rintro e w5 ⟨rfl, hb⟩; replace HA := Lib.hid (HA.out.step hb); clear hb))
      have HQ2 := Lib.hid (show QRow 26 (w5.alloc (.cells #[.string m, .string s, .string p, .string hst, .int .i64 len, .int .i64 rank] 26)) w5.heap.size m s p hst len rank from heap_alloc_new w5 _)
      replace HA := Lib.hid (HA.out.step ((Below.refl _ w5).alloc (Nat.le_refl _) (.cells #[.string m, .string s, .string p, .string hst, .int .i64 len, .int .i64 rank] 26)))
      generalize w5.alloc (.cells #[.string m, .string s, .string p, .string hst, .int .i64 len, .int .i64 rank] 26) = w6 at HA HQ2 ⊢
      generalize w5.heap.size = g2 at HQ2 ⊢
      have y0 := cell_of_row _ g 0 _ _ _ HA.out.row
      have y1 := cell_of_row _ g 1 _ _ _ HA.out.row
      have y2 := cell_of_row _ g 2 _ _ _ HA.out.row
      have y3 := cell_of_row _ g 3 _ _ _ HA.out.row
      have y4 := cell_of_row _ g 4 _ _ _ HA.out.row
      have y5 := cell_of_row _ g 5 _ _ _ HA.out.row
      have x0 := cell_of_row _ g2 0 _ _ _ HQ2.out
      have x1 := cell_of_row _ g2 1 _ _ _ HQ2.out
      have x2 := cell_of_row _ g2 2 _ _ _ HQ2.out
      have x3 := cell_of_row _ g2 3 _ _ _ HQ2.out
      have x4 := cell_of_row _ g2 4 _ _ _ HQ2.out
      have x5 := cell_of_row _ g2 5 _ _ _ HQ2.out
      go_upto_region 10 with fail
      clear x0 x1 x2 x3 x4 x5 y0 y1 y2 y3 y4 y5 HQ2
      go_upto_region 11 with (first | (at_builtin; refine wpList_keepF rfl _ _ rfl w.heap.size gF cF nF F rfl (OwnF.step HA.out.own ((Below.refl _ w6).alloc (Nat.le_refl _) _)) HNF.out ⟨w6.heap.size, 0, none⟩ 1 1 [bX more] rfl rfl (FieldsN.lit w6 [bX more] _ rfl) ?_ (HSZ.out _ _ HA.out.below.size) ?_; (have := HLQ.out; have := HNF.out; omega); intro v7 w7 ho7 hg7 hk7; replace HA := Lib.hid (HA.out.app hg7 hk7); obtain ⟨o7, c7, hv7, hf7, hr7⟩ := ho7.form; rw [HNF1.out] at hv7; obtain rfl := hv7; have HF7 := Lib.hid hf7; clear ho7 hg7 hk7 hf7 hr7) | (go_at_call 10; refine (HR2.out _ _ _ HA.out.below HF7.out).mono ?_; rintro e w8 ⟨rfl, hb⟩; replace HA := Lib.hid (HA.out.step hb); clear hb))
      clear HF7 HR1
      have HQ3 := Lib.hid (show QRow 26 (w8.alloc (.cells #[.string m3, .string s3, .string p3, .string h3, .int .i64 l3, .int .i64 r3] 26)) w8.heap.size m3 s3 p3 h3 l3 r3 from heap_alloc_new w8 _)
      have HN3 : Hid (w8.heap.size ≠ gF) := Lib.hid (by have := HA.out.lt; omega)
      replace HA := Lib.hid (HA.out.step ((Below.refl _ w8).alloc (Nat.le_refl _) (.cells #[.string m3, .string s3, .string p3, .string h3, .int .i64 l3, .int .i64 r3] 26)))
      generalize w8.alloc (.cells #[.string m3, .string s3, .string p3, .string h3, .int .i64 l3, .int .i64 r3] 26) = w9 at HA HQ3 ⊢
      generalize w8.heap.size = g3 at HQ3 HN3 ⊢
      go_upto_region 12 with (first | (at_builtin; refine wpList_keepF rfl _ _ rfl w.heap.size gF cF nF F rfl (OwnF.step HA.out.own ((Below.refl _ w9).alloc (Nat.le_refl _) _)) HNF.out ⟨w9.heap.size, 0, none⟩ 2 2 [bY, bZ more] rfl rfl (FieldsN.lit w9 [bY, bZ more] _ rfl) ?_ (HSZ.out _ _ HA.out.below.size) ?_; (have := HLQ.out; have := HNF.out; omega); intro v7 w7 ho7 hg7 hk7; replace HQ3 := Lib.hid (QRow.app HQ3.out HN3.out hg7); replace HA := Lib.hid (HA.out.app hg7 hk7); obtain ⟨o7, c7, hv7, hf7, hr7⟩ := ho7.form; rw [HNF2.out] at hv7; obtain rfl := hv7; have HF7 := Lib.hid hf7; clear ho7 hg7 hk7 hf7 hr7) | (go_at_call 10; refine (HR3.out _ _ _ HA.out.below HF7.out).mono ?_; rintro e w10 ⟨rfl, hb⟩; replace HA := Lib.hid (HA.out.step hb); replace HQ3 := Lib.hid (HQ3.out.below hb HQ3.out.lt); clear hb))
      have hb := (Below.refl w10.heap.size w10).alloc (Nat.le_refl _) (.cells #[.string ⟨#[]⟩, .string ⟨#[]⟩, .string ⟨#[]⟩, .string ⟨#[]⟩, .int .i64 0, .int .i64 0] 26)
      replace HA := Lib.hid (HA.out.step hb)
      replace HQ3 := Lib.hid (HQ3.out.below hb HQ3.out.lt)
      clear hb HF7
      generalize w10.alloc (.cells #[.string ⟨#[]⟩, .string ⟨#[]⟩, .string ⟨#[]⟩, .string ⟨#[]⟩, .int .i64 0, .int .i64 0] 26) = w11 at HA HQ3 ⊢
      generalize w10.heap.size = g4
      have HTOK : Hid (∀ W, Calls Tryd.prog 16 #[.string (⟨#[120, 45]⟩ ++ more)] W (fun e w' => e = .returned (.bool bt) ∧ Below W.heap.size W w')) := HTX
      cases bt
      case' true => obtain ⟨rfl, rfl, rfl, rfl, rfl, rfl⟩ : m = m3 ∧ s = s3 ∧ p = p3 ∧ hst = h3 ∧ len = l3 ∧ rank = r3 := by have h := HX3.out; simpa using h
      all_goals
        go_upto_region 14 with (first | (go_at_call 16; refine (HTOK.out _).mono ?_; rintro e w12 ⟨rfl, hb⟩; replace HA := Lib.hid (HA.out.step hb); replace HQ3 := Lib.hid (HQ3.out.below hb HQ3.out.lt); have y0 := cell_of_row _ g 0 _ _ _ HA.out.row; have y1 := cell_of_row _ g 1 _ _ _ HA.out.row; have y2 := cell_of_row _ g 2 _ _ _ HA.out.row; have y3 := cell_of_row _ g 3 _ _ _ HA.out.row; have y4 := cell_of_row _ g 4 _ _ _ HA.out.row; have y5 := cell_of_row _ g 5 _ _ _ HA.out.row; have x0 := cell_of_row _ g3 0 _ _ _ HQ3.out; have x1 := cell_of_row _ g3 1 _ _ _ HQ3.out; have x2 := cell_of_row _ g3 2 _ _ _ HQ3.out; have x3 := cell_of_row _ g3 3 _ _ _ HQ3.out; have x4 := cell_of_row _ g3 4 _ _ _ HQ3.out; have x5 := cell_of_row _ g3 5 _ _ _ HQ3.out; clear hb))
        clear x0 x1 x2 x3 x4 x5 y1 y2 y3 y4 y5
        replace HA : Hid (Bk w w12.drew g gF nF cF F m s p hst len rank) := Lib.hid (HA.out.step (Below.refl _ w12).drew)
        go_region_with (first
          | (go_at_call 12; refine (HTR.out _ _ _ HA.out.fields).mono ?_; rintro e w13 ⟨rfl, hb⟩; replace HA := Lib.hid (HA.out.step hb); clear hb; have y0 := cell_of_row _ g 0 _ _ _ HA.out.row)
          | (go_at_call 17; refine (HTM.out _).mono ?_; rintro e w' ⟨rfl, hw⟩; obtain rfl := hw)
          | (go_at_call 16; refine (HTN.out _).mono ?_; rintro e w14 ⟨rfl, hb⟩; replace HA := Lib.hid (HA.out.step hb); clear hb; have y0 := cell_of_row _ g 0 _ _ _ HA.out.row)
          | (go_at_call 9; refine (HAW.out _ HA.out.below).mono ?_; rintro e w15 ⟨rfl, hb⟩; replace HA := Lib.hid (HA.out.step hb); clear hb))
        all_goals
          go_wp2_with fail
          go_ret
          exact ⟨rfl, HA.out.below⟩
end Go.Proofs.YtecmccihldjicaaDoor
