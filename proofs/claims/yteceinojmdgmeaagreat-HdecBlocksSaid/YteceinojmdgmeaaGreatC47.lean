/- The document's items: footmanref05.Get. -/
import Derived.Test.YteceinojmdgmeaaGreatC42
import Derived.Deep.Cut
import Derived.Deep.DeepCutAuto
namespace Go.Proofs.YteceinojmdgmeaaGreat
open Go.RowKit
set_option linter.unusedVariables false
set_option linter.unusedSimpArgs false

theorem bytes_from {W : World} {oa : Option Addr} {bs : List Nat} {n cap : Nat} (hn : bs.length = n) (hnc : n ≤ cap) (h : BytesN W oa bs) (a : Nat) (ha : a ≤ n) : BytesN W (if cap = a then oa else Option.map (fun x => x.add a) oa) (bs.drop a) := by
  by_cases hck : cap = a
  · intro i hi
    rw [List.length_drop] at hi
    omega
  · rw [if_neg hck]
    by_cases h0 : n = 0
    · intro i hi
      rw [List.length_drop] at hi
      omega
    · obtain ⟨b, o, rfl, _⟩ := h.at (i := 0) (by omega)
      have := h.part a (n - a)
      rw [List.take_of_length_le (by rw [List.length_drop]; omega)] at this
      have e : Option.map (fun x => x.add a) (some (⟨b, o, none⟩ : Addr)) = some ⟨b, o + a, none⟩ := by simp [Addr.add]
      rw [e]
      exact this
theorem drop_256 {bs : List Nat} (h : ∀ i, i < bs.length → bs.getD i 0 < 256) (a : Nat) : ∀ i, i < (bs.drop a).length → (bs.drop a).getD i 0 < 256 := fun i hi => by
  rw [List.length_drop] at hi
  have := h (a + i) (by omega)
  simp only [List.getD_eq_getElem?_getD] at this ⊢
  rw [List.getElem?_drop]
  exact this
set_option maxRecDepth 100000 in
set_option maxHeartbeats 4000000 in
theorem dget_any (oa : Option Addr) (n cap : Nat) (bs : List Nat) (hn : bs.length = n) (hnc : n ≤ cap) (hn60 : n ≤ 100) (w : World) (hby : BytesN w oa bs) (hb256 : ∀ i, i < bs.length → bs.getD i 0 < 256) :
    Calls Tryz.prog 35 #[.slice oa n cap] w (GetPostI bs w) := by
  have HN := Lib.hid hn
  have HBY := Lib.hid hby
  have H256 := Lib.hid hb256
  have HQ := Lib.hid (KRow.new w 0 0 ⟨#[]⟩ ⟨#[]⟩)
  have HB := Lib.hid ((Below.refl w.heap.size w).alloc (Nat.le_refl _) (.cells #[.int .u8 ((0 : Nat) : Int), .int .i64 0, .string ⟨#[]⟩, .string ⟨#[]⟩] 63))
  have HS := Lib.hid (show (w.alloc (.cells #[.int .u8 ((0 : Nat) : Int), .int .i64 0, .string ⟨#[]⟩, .string ⟨#[]⟩] 63)).heap.size = w.heap.size + 1 from by simp)
  have HGT := Lib.hid (show ∀ a, a ≤ n → ∀ W, Below w.heap.size w W → Calls Tryz.prog 61 #[.slice (if cap = a then oa else Option.map (fun x => x.add a) oa) (n - a) (cap - a)] W fun e w' => e = .returned (.tuple #[.string (textG (bs.drop a)).1, .int .i64 ((textG (bs.drop a)).2.1 : Nat), .int .i64 ((textG (bs.drop a)).2.2 : Nat)]) ∧ Below W.heap.size W w' from fun a ha W hW => dgetText_any _ (n - a) (cap - a) (bs.drop a) (by rw [List.length_drop, hn]) (by omega) (by omega) W ((bytes_from hn hnc hby a ha).below hW) (drop_256 hb256 a))
  clear hn hby hb256
  cases bs with
  | nil =>
    obtain rfl := HN.out
    have HE := Lib.hid (show itemG [] = (Itm.zero, 0, 3) from rfl)
    go_enter Tryz.func35, Tryz.ntmps35
    go_wp2_with fail
    refine bodyPost_ret (v := .tuple #[.agg #[.int .u8 0, .int .i64 0, .string ⟨#[]⟩, .string ⟨#[]⟩], .int .i64 0, .int .i64 3]) (by simp [results, Tryz.results35, go_sem]) rfl ⟨by rw [HE.out]; rfl, HB.out⟩
  | cons b0 bs' =>
    have hpos : 0 < n := by have := HN.out; simp at this; omega
    have hposi : (0 : Int) < (n : Int) := by omega
    have hn0 : ((n : Int) == 0) = false := by simp; omega
    have hbl : b0 < 256 := H256.out 0 (by simp)
    have HKI := Lib.hid (fun W => dkind_any b0 hbl W)
    have hkl := kind_le b0
    have HFO := Lib.hid (fun W => ehead_any (kindN b0) hkl W)
    have hfk := (form_k4 (kindN b0) hkl).2
    have HOK := Lib.hid (getN_ok (b0 :: bs') (formB (kindN b0)) hfk)
    have HTX := Lib.hid (fun W => elit_any (kindN b0) (by omega) W)
    have HIT := Lib.hid (show itemG (b0 :: bs') = if (getN (b0 :: bs') (formB (kindN b0))).2.2 ≠ 0 then (Itm.zero, 0, (getN (b0 :: bs') (formB (kindN b0))).2.2)
    else if kindN b0 = 0 ∧ (getN (b0 :: bs') (formB (kindN b0))).1 = 0 then (Itm.zero, 0, 4)
    else goParts (b0 :: bs') (partsOf (kindN b0) (getN (b0 :: bs') (formB (kindN b0))).1) ⟨kindN b0, ((getN (b0 :: bs') (formB (kindN b0))).1 : Nat), ByteArray.empty, ByteArray.empty⟩ (getN (b0 :: bs') (formB (kindN b0))).2.1 from rfl)
    have HGE2 := Lib.hid (show ∀ W, BytesN W oa (b0 :: bs') → Calls Tryz.prog 59 #[.slice oa n cap, .int .i64 ((formB (kindN b0) : Nat) : Int)] W fun e w' => e = .returned (.tuple #[.int .i64 ((getN (b0 :: bs') (formB (kindN b0))).1 : Nat), .int .i64 ((getN (b0 :: bs') (formB (kindN b0))).2.1 : Nat), .int .i64 ((getN (b0 :: bs') (formB (kindN b0))).2.2 : Nat)]) ∧ Below W.heap.size W w' from fun W hW => refGet_any oa n cap (b0 :: bs') HN.out (by omega) (formB (kindN b0)) hfk W hW H256.out)
    have HTO := Lib.hid (fun a => textG_ok ((b0 :: bs').drop a))
    have HDL := Lib.hid (fun a => show ((b0 :: bs').drop a).length = n - a from by rw [List.length_drop, HN.out])
    obtain ⟨b, o, hoa, hc0⟩ := HBY.out.at (i := 0) (by simp)
    rw [List.getD_cons_zero, Nat.add_zero] at hc0
    have hblt : b < w.heap.size := World.block_lt_of_cell? _ _ hc0
    have hc1 := (cell_eq (a := ⟨b, o, none⟩) (HB.out.block b hblt)).trans hc0
    clear hfk
    generalize getN (b0 :: bs') (formB (kindN b0)) = g at HGE2 HOK HIT
    obtain ⟨m, at', er⟩ := g
    simp only at HGE2 HOK HIT
    generalize formB (kindN b0) = fb at HFO HGE2
    generalize formF (kindN b0) = ff at HFO
    generalize kindN b0 = kk at HKI hkl HFO HTX HIT
    go_enter Tryz.func35, Tryz.ntmps35
    go_upto_region 3 with fail
    generalize hW : w.alloc (.cells #[.int .u8 0, .int .i64 0, .string ⟨#[]⟩, .string ⟨#[]⟩] 63) = w1 at HQ HB HS hc1 ⊢
    clear hW hc0
    rw [hoa]
    go_wp2_with fail
    refine (HKI.out _).mono ?_
    rintro e w2 ⟨rfl, hw⟩
    subst hw
    have HX := Lib.hid (KRow.new w2 kk 0 ⟨#[]⟩ ⟨#[]⟩)
    have HQ2 := Lib.hid (HQ.out.alloc (.cells #[.int .u8 (kk : Int), .int .i64 0, .string ⟨#[]⟩, .string ⟨#[]⟩] 63))
    have HB2 := Lib.hid (HB.out.alloc HB.out.size (.cells #[.int .u8 (kk : Int), .int .i64 0, .string ⟨#[]⟩, .string ⟨#[]⟩] 63))
    go_upto_region 4 with fail
    generalize w2.alloc (.cells #[.int .u8 (kk : Int), .int .i64 0, .string ⟨#[]⟩, .string ⟨#[]⟩] 63) = w3 at HX HQ2 HB2 ⊢
    rw [HS.out] at HX ⊢
    rw [← hoa]
    clear HQ HB hc1 HS hoa
    have x0 := HX.out.c0
    go_wp2_with fail
    refine (HFO.out _).mono ?_
    rintro e w4 ⟨rfl, hw⟩
    subst hw
    go_wp2_with fail
    refine (HGE2.out _ (HBY.out.below HB2.out)).mono ?_
    rintro e w5 ⟨rfl, hb⟩
    have HX5 := Lib.hid (HX.out.step hb)
    have HQ5 := Lib.hid (HQ2.out.step hb)
    have HB5 := Lib.hid (HB2.out.trans (hb.mono HB2.out.size))
    clear hb HX HQ2 HB2 x0
    have x0 := HX5.out.c0
    have x1 := HX5.out.c1
    have xz1 := HX5.out.z 1
    have r0 := HQ5.out.c0
    have r1 := HQ5.out.c1
    have r2 := HQ5.out.c2
    have r3 := HQ5.out.c3
    have rz0 := HQ5.out.z 0
    have rz1 := HQ5.out.z 1
    have rz2 := HQ5.out.z 2
    have rz3 := HQ5.out.z 3
    have HZB := Lib.hid ((((HB5.out.setCell (show w.heap.size ≤ (⟨w.heap.size, 0, none⟩ : Addr).block from Nat.le_refl _) (.int .u8 0)).setCell (show w.heap.size ≤ (⟨w.heap.size, 1, none⟩ : Addr).block from Nat.le_refl _) (.int .i64 0)).setCell (show w.heap.size ≤ (⟨w.heap.size, 2, none⟩ : Addr).block from Nat.le_refl _) (.string ⟨#[]⟩)).setCell (show w.heap.size ≤ (⟨w.heap.size, 3, none⟩ : Addr).block from Nat.le_refl _) (.string ⟨#[]⟩))
    by_cases her : er = 0
    · subst her
      obtain ⟨h1, h2, h3⟩ := HOK.out rfl
      rw [HN.out] at h2
      have HIT1 := Lib.hid (HIT.out.trans (if_neg (fun h => h rfl)))
      by_cases hkm : kk = 0 ∧ m = 0
      · obtain ⟨rfl, rfl⟩ := hkm
        have HE := Lib.hid (HIT1.out.trans (if_pos ⟨rfl, rfl⟩))
        go_wp2_with fail
        refine bodyPost_ret (v := .tuple #[.agg #[.int .u8 0, .int .i64 0, .string ⟨#[]⟩, .string ⟨#[]⟩], .int .i64 0, .int .i64 4]) (by simp [results, Tryz.results35, go_sem, r0, r1, r2, r3]) rfl ⟨by rw [HE.out]; rfl, HZB.out⟩
      · have HIT2 := Lib.hid (HIT1.out.trans (if_neg hkm))
        have hkb : ((kk : Int) == 0) = true ∧ ((m : Int) == 0) = false ∨ ((kk : Int) == 0) = false := by
          by_cases hk0 : kk = 0
          · exact .inl ⟨by simp [hk0], by simp; omega⟩
          · exact .inr (by simp; omega)
        have HX6 := Lib.hid (HX5.out.set1 (m : Int))
        have HQ6 := Lib.hid (HQ5.out.other (w.heap.size + 1) 1 (by omega) (.int .i64 (m : Int)))
        have HB6 := Lib.hid (HB5.out.setCell (show w.heap.size ≤ (⟨w.heap.size + 1, 1, none⟩ : Addr).block from Nat.le_succ _) (.int .i64 (m : Int)))
        have HPS := Lib.hid (show partsOf kk m = if litK kk then (if m = 0 then [false, true] else [true]) else [] from rfl)
        clear hkm r0 r1 r2 r3 rz0 rz1 rz2 rz3 HZB
        cases hl : litK kk
        · have HPX := Lib.hid (HIT2.out.trans (by rw [show partsOf kk m = [] from by rw [HPS.out, hl]; rfl]; rfl : _ = (⟨kk, (m : Int), ByteArray.empty, ByteArray.empty⟩, at', 0)))
          rcases hkb with ⟨q7, q8⟩ | q7
          all_goals
            go_upto_region 11 with fail
            generalize w5.setCell ⟨w.heap.size + 1, 1, none⟩ (.int .i64 (m : Int)) = w6 at HX6 HQ6 HB6 ⊢
            clear x0 x1 xz1
            have x0 := HX6.out.c0
            go_wp2_with fail
            refine (HTX.out _).mono ?_
            rintro e w7 ⟨rfl, hw⟩
            subst hw
            rw [hl]
            go_wp2_with fail
            refine (HTX.out _).mono ?_
            rintro e w7 ⟨rfl, hw⟩
            subst hw
            rw [hl]
            have x0 := HX6.out.c0
            have x1 := HX6.out.c1
            have x2 := HX6.out.c2
            have x3 := HX6.out.c3
            have r0 := HQ6.out.c0
            have r1 := HQ6.out.c1
            have r2 := HQ6.out.c2
            have r3 := HQ6.out.c3
            have rz0 := HQ6.out.z 0
            have rz1 := HQ6.out.z 1
            have rz2 := HQ6.out.z 2
            have rz3 := HQ6.out.z 3
            have HZX := Lib.hid ((((HB6.out.setCell (show w.heap.size ≤ (⟨w.heap.size, 0, none⟩ : Addr).block from Nat.le_refl _) (.int .u8 (kk : Int))).setCell (show w.heap.size ≤ (⟨w.heap.size, 1, none⟩ : Addr).block from Nat.le_refl _) (.int .i64 (m : Int))).setCell (show w.heap.size ≤ (⟨w.heap.size, 2, none⟩ : Addr).block from Nat.le_refl _) (.string ⟨#[]⟩)).setCell (show w.heap.size ≤ (⟨w.heap.size, 3, none⟩ : Addr).block from Nat.le_refl _) (.string ⟨#[]⟩))
            go_wp2_with fail
            refine bodyPost_ret (v := .tuple #[.agg #[.int .u8 (kk : Int), .int .i64 (m : Int), .string ⟨#[]⟩, .string ⟨#[]⟩], .int .i64 (at' : Int), .int .i64 0]) (by simp [results, Tryz.results35, go_sem, r0, r1, r2, r3]) rfl ⟨by rw [HPX.out]; rfl, HZX.out⟩
        · have q7 : ((kk : Int) == 0) = false := by
            have : kk ≠ 0 := by intro h; rw [h] at hl; revert hl; decide
            simp; omega
          clear hkb
          by_cases hm0 : m = 0
          · have HIT3 := Lib.hid (HIT2.out.trans (by rw [show partsOf kk m = [false, true] from by rw [HPS.out, hl, if_pos rfl, if_pos hm0]] : _ = goParts (b0 :: bs') [false, true] ⟨kk, (m : Int), ByteArray.empty, ByteArray.empty⟩ at'))
            have hmb : ((m : Int) == 0) = true := by simp [hm0]
            clear hm0 HIT2
            go_upto_region 11 with fail
            generalize w5.setCell ⟨w.heap.size + 1, 1, none⟩ (.int .i64 (m : Int)) = w6 at HX6 HQ6 HB6 ⊢
            clear x0 x1 xz1
            have x0 := HX6.out.c0
            go_wp2_with fail
            refine (HTX.out _).mono ?_
            rintro e w7 ⟨rfl, hw⟩
            subst hw
            rw [hl]
            have ht1 := HGT.out at' h2
            have hto1 := HTO.out at'
            rw [HDL.out] at hto1
            have HGP1 := Lib.hid (HIT3.out.trans (show goParts (b0 :: bs') (false :: [true]) ⟨kk, (m : Int), ByteArray.empty, ByteArray.empty⟩ at' = if (textG ((b0 :: bs').drop (at'))).2.2 ≠ 0 then (Itm.zero, 0, (textG ((b0 :: bs').drop (at'))).2.2) else goParts (b0 :: bs') [true] (Itm.put ⟨kk, (m : Int), ByteArray.empty, ByteArray.empty⟩ false (textG ((b0 :: bs').drop (at'))).1) (at' + (textG ((b0 :: bs').drop (at'))).2.1) from rfl))
            generalize textG ((b0 :: bs').drop (at')) = t1 at ht1 hto1 HGP1
            obtain ⟨s1, k1, er1⟩ := t1
            simp only at ht1 hto1 HGP1
            have HTO1 := Lib.hid hto1
            clear hto1
            have ha1 : at' ≤ n := h2
            have hx1a : (0 : Int) ≤ ((at' : Nat) : Int) := by omega
            have hx1b : ((at' : Nat) : Int) ≤ (n : Int) := by omega
            have hx1c : (n : Int) ≤ (cap : Int) := by omega
            by_cases hca1 : cap = at'
            · subst hca1
              rw [if_pos rfl, Nat.sub_self, Nat.sub_eq_zero_of_le hnc] at ht1
              have her1 : er1 ≠ 0 := fun h => by have := HTO1.out h; omega
              have HT1 := Lib.hid ht1
              clear ht1
              go_wp2_with fail
              refine (HT1.out _ HB6.out).mono ?_
              rintro e wt1 ⟨rfl, hb⟩
              have HXT1 := Lib.hid (HX6.out.step hb)
              have HQT1 := Lib.hid (HQ6.out.step hb)
              have HBT1 := Lib.hid (HB6.out.trans (hb.mono HB6.out.size))
              clear hb x0
              have q0 : ((er1 : Int) != 0) = true := by simp; omega
              have HE := Lib.hid (HGP1.out.trans (if_pos her1))
              have r0 := HQT1.out.c0
              have r1 := HQT1.out.c1
              have r2 := HQT1.out.c2
              have r3 := HQT1.out.c3
              have rz0 := HQT1.out.z 0
              have rz1 := HQT1.out.z 1
              have rz2 := HQT1.out.z 2
              have rz3 := HQT1.out.z 3
              have HZE := Lib.hid ((((HBT1.out.setCell (show w.heap.size ≤ (⟨w.heap.size, 0, none⟩ : Addr).block from Nat.le_refl _) (.int .u8 0)).setCell (show w.heap.size ≤ (⟨w.heap.size, 1, none⟩ : Addr).block from Nat.le_refl _) (.int .i64 0)).setCell (show w.heap.size ≤ (⟨w.heap.size, 2, none⟩ : Addr).block from Nat.le_refl _) (.string ⟨#[]⟩)).setCell (show w.heap.size ≤ (⟨w.heap.size, 3, none⟩ : Addr).block from Nat.le_refl _) (.string ⟨#[]⟩))
              go_wp2_with fail
              refine bodyPost_ret (v := .tuple #[.agg #[.int .u8 0, .int .i64 0, .string ⟨#[]⟩, .string ⟨#[]⟩], .int .i64 0, .int .i64 (er1 : Int)]) (by simp [results, Tryz.results35, go_sem, r0, r1, r2, r3]) rfl ⟨by rw [HE.out]; rfl, HZE.out⟩
            rw [if_neg hca1] at ht1
            have HT1 := Lib.hid ht1
            clear ht1
            go_wp2_with fail
            refine (HT1.out _ HB6.out).mono ?_
            rintro e wt1 ⟨rfl, hb⟩
            have HXT1 := Lib.hid (HX6.out.step hb)
            have HQT1 := Lib.hid (HQ6.out.step hb)
            have HBT1 := Lib.hid (HB6.out.trans (hb.mono HB6.out.size))
            clear hb x0
            by_cases her1 : er1 = 0
            · subst her1
              obtain ⟨hk1, hl1⟩ := HTO1.out rfl
              have HI1 := Lib.hid (HGP1.out.trans (if_neg (fun h => h rfl)))
              have hw1 : IntKind.i64.wrap (((at' : Nat) : Int) + (k1 : Int)) = ((at' + k1 : Nat) : Int) := IntWalk.i64_in _ (by omega)
              have x2 := HXT1.out.c2
              have xz2 := HXT1.out.z 2
              have HXN1 := Lib.hid (HXT1.out.set2 s1)
              have HQN1 := Lib.hid (HQT1.out.other (w.heap.size + 1) 2 (by omega) (.string s1))
              have HBN1 := Lib.hid (HBT1.out.setCell (show w.heap.size ≤ (⟨w.heap.size + 1, 2, none⟩ : Addr).block from Nat.le_succ _) (.string s1))
              go_upto_region 17 with fail
              generalize wt1.setCell ⟨w.heap.size + 1, 2, none⟩ (.string s1) = wn1 at HXN1 HQN1 HBN1 ⊢
              clear x2 xz2 HXT1 HQT1 HBT1
              have x0 := HXN1.out.c0
              go_wp2_with fail
              refine (HTX.out _).mono ?_
              rintro e w7 ⟨rfl, hw⟩
              subst hw
              rw [hl]
              have ht2 := HGT.out (at' + k1) (by omega)
              have hto2 := HTO.out (at' + k1)
              rw [HDL.out] at hto2
              have HGP2 := Lib.hid (HI1.out.trans (show goParts (b0 :: bs') (true :: []) ⟨kk, (m : Int), s1, ByteArray.empty⟩ (at' + k1) = if (textG ((b0 :: bs').drop ((at' + k1)))).2.2 ≠ 0 then (Itm.zero, 0, (textG ((b0 :: bs').drop ((at' + k1)))).2.2) else goParts (b0 :: bs') [] (Itm.put ⟨kk, (m : Int), s1, ByteArray.empty⟩ true (textG ((b0 :: bs').drop ((at' + k1)))).1) ((at' + k1) + (textG ((b0 :: bs').drop ((at' + k1)))).2.1) from rfl))
              generalize textG ((b0 :: bs').drop ((at' + k1))) = t2 at ht2 hto2 HGP2
              obtain ⟨s2, k2, er2⟩ := t2
              simp only at ht2 hto2 HGP2
              have HTO2 := Lib.hid hto2
              clear hto2
              have ha2 : (at' + k1) ≤ n := (by omega)
              have hx2a : (0 : Int) ≤ (((at' + k1) : Nat) : Int) := by omega
              have hx2b : (((at' + k1) : Nat) : Int) ≤ (n : Int) := by omega
              have hx2c : (n : Int) ≤ (cap : Int) := by omega
              by_cases hca2 : cap = (at' + k1)
              · subst hca2
                rw [if_pos rfl, Nat.sub_self, Nat.sub_eq_zero_of_le hnc] at ht2
                have her2 : er2 ≠ 0 := fun h => by have := HTO2.out h; omega
                have HT2 := Lib.hid ht2
                clear ht2
                go_wp2_with fail
                refine (HT2.out _ HBN1.out).mono ?_
                rintro e wt2 ⟨rfl, hb⟩
                have HXT2 := Lib.hid (HXN1.out.step hb)
                have HQT2 := Lib.hid (HQN1.out.step hb)
                have HBT2 := Lib.hid (HBN1.out.trans (hb.mono HBN1.out.size))
                clear hb x0
                have q0 : ((er2 : Int) != 0) = true := by simp; omega
                have HE := Lib.hid (HGP2.out.trans (if_pos her2))
                have r0 := HQT2.out.c0
                have r1 := HQT2.out.c1
                have r2 := HQT2.out.c2
                have r3 := HQT2.out.c3
                have rz0 := HQT2.out.z 0
                have rz1 := HQT2.out.z 1
                have rz2 := HQT2.out.z 2
                have rz3 := HQT2.out.z 3
                have HZE := Lib.hid ((((HBT2.out.setCell (show w.heap.size ≤ (⟨w.heap.size, 0, none⟩ : Addr).block from Nat.le_refl _) (.int .u8 0)).setCell (show w.heap.size ≤ (⟨w.heap.size, 1, none⟩ : Addr).block from Nat.le_refl _) (.int .i64 0)).setCell (show w.heap.size ≤ (⟨w.heap.size, 2, none⟩ : Addr).block from Nat.le_refl _) (.string ⟨#[]⟩)).setCell (show w.heap.size ≤ (⟨w.heap.size, 3, none⟩ : Addr).block from Nat.le_refl _) (.string ⟨#[]⟩))
                go_wp2_with fail
                refine bodyPost_ret (v := .tuple #[.agg #[.int .u8 0, .int .i64 0, .string ⟨#[]⟩, .string ⟨#[]⟩], .int .i64 0, .int .i64 (er2 : Int)]) (by simp [results, Tryz.results35, go_sem, r0, r1, r2, r3]) rfl ⟨by rw [HE.out]; rfl, HZE.out⟩
              rw [if_neg hca2] at ht2
              have HT2 := Lib.hid ht2
              clear ht2
              go_wp2_with fail
              refine (HT2.out _ HBN1.out).mono ?_
              rintro e wt2 ⟨rfl, hb⟩
              have HXT2 := Lib.hid (HXN1.out.step hb)
              have HQT2 := Lib.hid (HQN1.out.step hb)
              have HBT2 := Lib.hid (HBN1.out.trans (hb.mono HBN1.out.size))
              clear hb x0
              by_cases her2 : er2 = 0
              · subst her2
                obtain ⟨hk2, hl2⟩ := HTO2.out rfl
                have HI2 := Lib.hid (HGP2.out.trans (if_neg (fun h => h rfl)))
                have hw2 : IntKind.i64.wrap ((((at' + k1) : Nat) : Int) + (k2 : Int)) = (((at' + k1) + k2 : Nat) : Int) := IntWalk.i64_in _ (by omega)
                have x3 := HXT2.out.c3
                have xz3 := HXT2.out.z 3
                have HXN2 := Lib.hid (HXT2.out.set3 s2)
                have HQN2 := Lib.hid (HQT2.out.other (w.heap.size + 1) 3 (by omega) (.string s2))
                have HBN2 := Lib.hid (HBT2.out.setCell (show w.heap.size ≤ (⟨w.heap.size + 1, 3, none⟩ : Addr).block from Nat.le_succ _) (.string s2))
                go_upto_region 23 with fail
                generalize wt2.setCell ⟨w.heap.size + 1, 3, none⟩ (.string s2) = wn2 at HXN2 HQN2 HBN2 ⊢
                clear x3 xz3 HXT2 HQT2 HBT2
                have x0 := HXN2.out.c0
                have x1 := HXN2.out.c1
                have x2 := HXN2.out.c2
                have x3 := HXN2.out.c3
                have r0 := HQN2.out.c0
                have r1 := HQN2.out.c1
                have r2 := HQN2.out.c2
                have r3 := HQN2.out.c3
                have rz0 := HQN2.out.z 0
                have rz1 := HQN2.out.z 1
                have rz2 := HQN2.out.z 2
                have rz3 := HQN2.out.z 3
                have HZX := Lib.hid ((((HBN2.out.setCell (show w.heap.size ≤ (⟨w.heap.size, 0, none⟩ : Addr).block from Nat.le_refl _) (.int .u8 (kk : Int))).setCell (show w.heap.size ≤ (⟨w.heap.size, 1, none⟩ : Addr).block from Nat.le_refl _) (.int .i64 (m : Int))).setCell (show w.heap.size ≤ (⟨w.heap.size, 2, none⟩ : Addr).block from Nat.le_refl _) (.string s1)).setCell (show w.heap.size ≤ (⟨w.heap.size, 3, none⟩ : Addr).block from Nat.le_refl _) (.string s2))
                go_wp2_with fail
                refine bodyPost_ret (v := .tuple #[.agg #[.int .u8 (kk : Int), .int .i64 (m : Int), .string s1, .string s2], .int .i64 ((at' + k1 + k2 : Nat) : Int), .int .i64 0]) (by simp [results, Tryz.results35, go_sem, r0, r1, r2, r3]) rfl ⟨by rw [HI2.out]; rfl, HZX.out⟩
              · have q0 : ((er2 : Int) != 0) = true := by simp; omega
                have HE := Lib.hid (HGP2.out.trans (if_pos her2))
                have r0 := HQT2.out.c0
                have r1 := HQT2.out.c1
                have r2 := HQT2.out.c2
                have r3 := HQT2.out.c3
                have rz0 := HQT2.out.z 0
                have rz1 := HQT2.out.z 1
                have rz2 := HQT2.out.z 2
                have rz3 := HQT2.out.z 3
                have HZE := Lib.hid ((((HBT2.out.setCell (show w.heap.size ≤ (⟨w.heap.size, 0, none⟩ : Addr).block from Nat.le_refl _) (.int .u8 0)).setCell (show w.heap.size ≤ (⟨w.heap.size, 1, none⟩ : Addr).block from Nat.le_refl _) (.int .i64 0)).setCell (show w.heap.size ≤ (⟨w.heap.size, 2, none⟩ : Addr).block from Nat.le_refl _) (.string ⟨#[]⟩)).setCell (show w.heap.size ≤ (⟨w.heap.size, 3, none⟩ : Addr).block from Nat.le_refl _) (.string ⟨#[]⟩))
                go_wp2_with fail
                refine bodyPost_ret (v := .tuple #[.agg #[.int .u8 0, .int .i64 0, .string ⟨#[]⟩, .string ⟨#[]⟩], .int .i64 0, .int .i64 (er2 : Int)]) (by simp [results, Tryz.results35, go_sem, r0, r1, r2, r3]) rfl ⟨by rw [HE.out]; rfl, HZE.out⟩
            · have q0 : ((er1 : Int) != 0) = true := by simp; omega
              have HE := Lib.hid (HGP1.out.trans (if_pos her1))
              have r0 := HQT1.out.c0
              have r1 := HQT1.out.c1
              have r2 := HQT1.out.c2
              have r3 := HQT1.out.c3
              have rz0 := HQT1.out.z 0
              have rz1 := HQT1.out.z 1
              have rz2 := HQT1.out.z 2
              have rz3 := HQT1.out.z 3
              have HZE := Lib.hid ((((HBT1.out.setCell (show w.heap.size ≤ (⟨w.heap.size, 0, none⟩ : Addr).block from Nat.le_refl _) (.int .u8 0)).setCell (show w.heap.size ≤ (⟨w.heap.size, 1, none⟩ : Addr).block from Nat.le_refl _) (.int .i64 0)).setCell (show w.heap.size ≤ (⟨w.heap.size, 2, none⟩ : Addr).block from Nat.le_refl _) (.string ⟨#[]⟩)).setCell (show w.heap.size ≤ (⟨w.heap.size, 3, none⟩ : Addr).block from Nat.le_refl _) (.string ⟨#[]⟩))
              go_wp2_with fail
              refine bodyPost_ret (v := .tuple #[.agg #[.int .u8 0, .int .i64 0, .string ⟨#[]⟩, .string ⟨#[]⟩], .int .i64 0, .int .i64 (er1 : Int)]) (by simp [results, Tryz.results35, go_sem, r0, r1, r2, r3]) rfl ⟨by rw [HE.out]; rfl, HZE.out⟩
          · have HIT3 := Lib.hid (HIT2.out.trans (by rw [show partsOf kk m = [true] from by rw [HPS.out, hl, if_pos rfl, if_neg hm0]] : _ = goParts (b0 :: bs') [true] ⟨kk, (m : Int), ByteArray.empty, ByteArray.empty⟩ at'))
            have hmb : ((m : Int) == 0) = false := by simp; omega
            clear HIT2
            go_upto_region 11 with fail
            generalize w5.setCell ⟨w.heap.size + 1, 1, none⟩ (.int .i64 (m : Int)) = w6 at HX6 HQ6 HB6 ⊢
            clear x0 x1 xz1
            have x0 := HX6.out.c0
            go_wp2_with fail
            refine (HTX.out _).mono ?_
            rintro e w7 ⟨rfl, hw⟩
            subst hw
            rw [hl]
            go_wp2_with fail
            refine (HTX.out _).mono ?_
            rintro e w7 ⟨rfl, hw⟩
            subst hw
            rw [hl]
            have ht1 := HGT.out at' h2
            have hto1 := HTO.out at'
            rw [HDL.out] at hto1
            have HGP1 := Lib.hid (HIT3.out.trans (show goParts (b0 :: bs') (true :: []) ⟨kk, (m : Int), ByteArray.empty, ByteArray.empty⟩ at' = if (textG ((b0 :: bs').drop (at'))).2.2 ≠ 0 then (Itm.zero, 0, (textG ((b0 :: bs').drop (at'))).2.2) else goParts (b0 :: bs') [] (Itm.put ⟨kk, (m : Int), ByteArray.empty, ByteArray.empty⟩ true (textG ((b0 :: bs').drop (at'))).1) (at' + (textG ((b0 :: bs').drop (at'))).2.1) from rfl))
            generalize textG ((b0 :: bs').drop (at')) = t1 at ht1 hto1 HGP1
            obtain ⟨s1, k1, er1⟩ := t1
            simp only at ht1 hto1 HGP1
            have HTO1 := Lib.hid hto1
            clear hto1
            have ha1 : at' ≤ n := h2
            have hx1a : (0 : Int) ≤ ((at' : Nat) : Int) := by omega
            have hx1b : ((at' : Nat) : Int) ≤ (n : Int) := by omega
            have hx1c : (n : Int) ≤ (cap : Int) := by omega
            by_cases hca1 : cap = at'
            · subst hca1
              rw [if_pos rfl, Nat.sub_self, Nat.sub_eq_zero_of_le hnc] at ht1
              have her1 : er1 ≠ 0 := fun h => by have := HTO1.out h; omega
              have HT1 := Lib.hid ht1
              clear ht1
              go_wp2_with fail
              refine (HT1.out _ HB6.out).mono ?_
              rintro e wt1 ⟨rfl, hb⟩
              have HXT1 := Lib.hid (HX6.out.step hb)
              have HQT1 := Lib.hid (HQ6.out.step hb)
              have HBT1 := Lib.hid (HB6.out.trans (hb.mono HB6.out.size))
              clear hb x0
              have q0 : ((er1 : Int) != 0) = true := by simp; omega
              have HE := Lib.hid (HGP1.out.trans (if_pos her1))
              have r0 := HQT1.out.c0
              have r1 := HQT1.out.c1
              have r2 := HQT1.out.c2
              have r3 := HQT1.out.c3
              have rz0 := HQT1.out.z 0
              have rz1 := HQT1.out.z 1
              have rz2 := HQT1.out.z 2
              have rz3 := HQT1.out.z 3
              have HZE := Lib.hid ((((HBT1.out.setCell (show w.heap.size ≤ (⟨w.heap.size, 0, none⟩ : Addr).block from Nat.le_refl _) (.int .u8 0)).setCell (show w.heap.size ≤ (⟨w.heap.size, 1, none⟩ : Addr).block from Nat.le_refl _) (.int .i64 0)).setCell (show w.heap.size ≤ (⟨w.heap.size, 2, none⟩ : Addr).block from Nat.le_refl _) (.string ⟨#[]⟩)).setCell (show w.heap.size ≤ (⟨w.heap.size, 3, none⟩ : Addr).block from Nat.le_refl _) (.string ⟨#[]⟩))
              go_wp2_with fail
              refine bodyPost_ret (v := .tuple #[.agg #[.int .u8 0, .int .i64 0, .string ⟨#[]⟩, .string ⟨#[]⟩], .int .i64 0, .int .i64 (er1 : Int)]) (by simp [results, Tryz.results35, go_sem, r0, r1, r2, r3]) rfl ⟨by rw [HE.out]; rfl, HZE.out⟩
            rw [if_neg hca1] at ht1
            have HT1 := Lib.hid ht1
            clear ht1
            go_wp2_with fail
            refine (HT1.out _ HB6.out).mono ?_
            rintro e wt1 ⟨rfl, hb⟩
            have HXT1 := Lib.hid (HX6.out.step hb)
            have HQT1 := Lib.hid (HQ6.out.step hb)
            have HBT1 := Lib.hid (HB6.out.trans (hb.mono HB6.out.size))
            clear hb x0
            by_cases her1 : er1 = 0
            · subst her1
              obtain ⟨hk1, hl1⟩ := HTO1.out rfl
              have HI1 := Lib.hid (HGP1.out.trans (if_neg (fun h => h rfl)))
              have hw1 : IntKind.i64.wrap (((at' : Nat) : Int) + (k1 : Int)) = ((at' + k1 : Nat) : Int) := IntWalk.i64_in _ (by omega)
              have x3 := HXT1.out.c3
              have xz3 := HXT1.out.z 3
              have HXN1 := Lib.hid (HXT1.out.set3 s1)
              have HQN1 := Lib.hid (HQT1.out.other (w.heap.size + 1) 3 (by omega) (.string s1))
              have HBN1 := Lib.hid (HBT1.out.setCell (show w.heap.size ≤ (⟨w.heap.size + 1, 3, none⟩ : Addr).block from Nat.le_succ _) (.string s1))
              go_upto_region 23 with fail
              generalize wt1.setCell ⟨w.heap.size + 1, 3, none⟩ (.string s1) = wn1 at HXN1 HQN1 HBN1 ⊢
              clear x3 xz3 HXT1 HQT1 HBT1
              have x0 := HXN1.out.c0
              have x1 := HXN1.out.c1
              have x2 := HXN1.out.c2
              have x3 := HXN1.out.c3
              have r0 := HQN1.out.c0
              have r1 := HQN1.out.c1
              have r2 := HQN1.out.c2
              have r3 := HQN1.out.c3
              have rz0 := HQN1.out.z 0
              have rz1 := HQN1.out.z 1
              have rz2 := HQN1.out.z 2
              have rz3 := HQN1.out.z 3
              have HZX := Lib.hid ((((HBN1.out.setCell (show w.heap.size ≤ (⟨w.heap.size, 0, none⟩ : Addr).block from Nat.le_refl _) (.int .u8 (kk : Int))).setCell (show w.heap.size ≤ (⟨w.heap.size, 1, none⟩ : Addr).block from Nat.le_refl _) (.int .i64 (m : Int))).setCell (show w.heap.size ≤ (⟨w.heap.size, 2, none⟩ : Addr).block from Nat.le_refl _) (.string ⟨#[]⟩)).setCell (show w.heap.size ≤ (⟨w.heap.size, 3, none⟩ : Addr).block from Nat.le_refl _) (.string s1))
              go_wp2_with fail
              refine bodyPost_ret (v := .tuple #[.agg #[.int .u8 (kk : Int), .int .i64 (m : Int), .string ⟨#[]⟩, .string s1], .int .i64 ((at' + k1 : Nat) : Int), .int .i64 0]) (by simp [results, Tryz.results35, go_sem, r0, r1, r2, r3]) rfl ⟨by rw [HI1.out]; rfl, HZX.out⟩
            · have q0 : ((er1 : Int) != 0) = true := by simp; omega
              have HE := Lib.hid (HGP1.out.trans (if_pos her1))
              have r0 := HQT1.out.c0
              have r1 := HQT1.out.c1
              have r2 := HQT1.out.c2
              have r3 := HQT1.out.c3
              have rz0 := HQT1.out.z 0
              have rz1 := HQT1.out.z 1
              have rz2 := HQT1.out.z 2
              have rz3 := HQT1.out.z 3
              have HZE := Lib.hid ((((HBT1.out.setCell (show w.heap.size ≤ (⟨w.heap.size, 0, none⟩ : Addr).block from Nat.le_refl _) (.int .u8 0)).setCell (show w.heap.size ≤ (⟨w.heap.size, 1, none⟩ : Addr).block from Nat.le_refl _) (.int .i64 0)).setCell (show w.heap.size ≤ (⟨w.heap.size, 2, none⟩ : Addr).block from Nat.le_refl _) (.string ⟨#[]⟩)).setCell (show w.heap.size ≤ (⟨w.heap.size, 3, none⟩ : Addr).block from Nat.le_refl _) (.string ⟨#[]⟩))
              go_wp2_with fail
              refine bodyPost_ret (v := .tuple #[.agg #[.int .u8 0, .int .i64 0, .string ⟨#[]⟩, .string ⟨#[]⟩], .int .i64 0, .int .i64 (er1 : Int)]) (by simp [results, Tryz.results35, go_sem, r0, r1, r2, r3]) rfl ⟨by rw [HE.out]; rfl, HZE.out⟩
    · have q0 : ((er : Int) != 0) = true := by simp; omega
      have HE := Lib.hid (HIT.out.trans (if_pos her))
      go_wp2_with fail
      refine bodyPost_ret (v := .tuple #[.agg #[.int .u8 0, .int .i64 0, .string ⟨#[]⟩, .string ⟨#[]⟩], .int .i64 0, .int .i64 (er : Int)]) (by simp [results, Tryz.results35, go_sem, r0, r1, r2, r3]) rfl ⟨by rw [HE.out]; rfl, HZB.out⟩
end Go.Proofs.YteceinojmdgmeaaGreat

