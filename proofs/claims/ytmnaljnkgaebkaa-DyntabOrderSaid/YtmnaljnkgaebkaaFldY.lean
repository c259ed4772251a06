/- footmanlaw04.awake: the walk. -/
import Derived.Test.YtmnaljnkgaebkaaFldX
namespace Go.Proofs.Ytmnaljnkgaebkaa
open Go.RowKit
set_option linter.unusedVariables false
set_option linter.unusedSimpArgs false

set_option maxRecDepth 100000 in
set_option maxHeartbeats 4000000 in
theorem awake04_any (w : World) : Calls Try.prog 26 #[] w fun e w' => e = .returned (.bool true) ∧ Below w.heap.size w w' := by
  go_enter Try.func26, Try.ntmps26
  go_wp2_with fail
  refine (new_yes 80 (by omega) _).mono ?_
  rintro e w1 ⟨rfl, hb⟩
  have HB1 := Lib.hid hb
  clear hb
  have HT := Lib.hid (TRow.new w1 80 (.slice none 0 0))
  have HB2 := Lib.hid (HB1.out.alloc HB1.out.size (.cells #[.int .i64 80, .slice none 0 0] 48))
  go_upto_region 2 with fail
  generalize hq : w1.heap.size = q1 at HT ⊢
  generalize w1.alloc (.cells #[.int .i64 80, .slice none 0 0] 48) = w2 at HT HB2 ⊢
  have HQ1 := Lib.hid (show w.heap.size ≤ q1 from hq ▸ HB1.out.size)
  clear hq HB1
  have x0 := HT.out.c0
  have x1 := HT.out.c1
  go_wp2_with fail
  refine (add_1 _).mono ?_
  rintro e w3 ⟨oa1, cap1, rfl, _, hf, hb⟩
  have HF1 := Lib.hid hf
  have HT3 := Lib.hid (HT.out.step hb)
  have HB3 := Lib.hid (HB2.out.trans (hb.mono HB2.out.size))
  clear hb hf HT HB2 x0 x1
  go_wp2_with fail
  refine (add_2 oa1 cap1 _ HF1.out).mono ?_
  rintro e w4 ⟨oa2, cap2, rfl, ho, hf, hb⟩
  have HO4 := Lib.hid ho
  have HT4 := Lib.hid (HT3.out.step hb)
  have HB4 := Lib.hid (HB3.out.trans (hb.mono HB3.out.size))
  clear hb hf ho HT3 HB3 HF1
  have x0 := HT4.out.c0
  have x1 := HT4.out.c1
  have xz0 := HT4.out.z 0
  have xz1 := HT4.out.z 1
  have HT5 := Lib.hid ((HT4.out.set0 80).set1 (.slice oa2 2 cap2))
  have HO5 := Lib.hid ((HO4.out.setne q1 0 (.int .i64 80) (HO4.out.ne_table HT4.out)).setne q1 1 (.slice oa2 2 cap2) (HO4.out.ne_table HT4.out))
  have HB5 := Lib.hid ((HB4.out.setCell (show w.heap.size ≤ (⟨q1, 0, none⟩ : Addr).block from HQ1.out) (.int .i64 80)).setCell (show w.heap.size ≤ (⟨q1, 1, none⟩ : Addr).block from HQ1.out) (.slice oa2 2 cap2))
  go_upto_region 3 with fail
  generalize (w4.setCell ⟨q1, 0, none⟩ (.int .i64 80)).setCell ⟨q1, 1, none⟩ (.slice oa2 2 cap2) = w5 at HT5 HO5 HB5 ⊢
  clear HT4 HO4 HB4 x0 x1 xz0 xz1
  obtain ⟨_, _, e5, hf5, _⟩ := HO5.out.form
  obtain ⟨rfl, hz5, rfl⟩ := Value.slice.inj e5
  clear hz5 e5
  have HF5 := Lib.hid hf5
  clear hf5
  have x0 := HT5.out.c0
  have x1 := HT5.out.c1
  go_wp2_with fail
  refine (at_1 oa2 cap2 _ HF5.out).mono ?_
  rintro e w6 ⟨rfl, hb⟩
  have HT6 := Lib.hid (HT5.out.step hb)
  have HF6 := Lib.hid (HF5.out.below hb)
  have HB6 := Lib.hid (HB5.out.trans (hb.mono HB5.out.size))
  clear hb HT5 HO5 HB5 HF5 x0 x1
  have HR6 := Lib.hid (show FRow (w6.alloc (.cells #[.string ⟨#[99]⟩, .string ⟨#[100]⟩, .bool false] 50)) w6.heap.size fC from heap_alloc_new w6 _)
  have HT7 := Lib.hid (HT6.out.alloc (.cells #[.string ⟨#[99]⟩, .string ⟨#[100]⟩, .bool false] 50))
  have HF7 := Lib.hid (HF6.out.below ((Below.refl _ _).alloc (Nat.le_refl _) (.cells #[.string ⟨#[99]⟩, .string ⟨#[100]⟩, .bool false] 50)))
  have HB7 := Lib.hid (HB6.out.alloc HB6.out.size (.cells #[.string ⟨#[99]⟩, .string ⟨#[100]⟩, .bool false] 50))
  go_upto_region 4 with fail
  generalize hq : w6.heap.size = q3 at HR6 ⊢
  generalize w6.alloc (.cells #[.string ⟨#[99]⟩, .string ⟨#[100]⟩, .bool false] 50) = w7 at HT7 HF7 HB7 HR6 ⊢
  clear hq HT6 HF6 HB6
  have x0 := HT7.out.c0
  have x1 := HT7.out.c1
  go_wp2_with fail
  refine (find_1 oa2 cap2 _ HF7.out).mono ?_
  rintro e w8 ⟨rfl, hb⟩
  have HT8 := Lib.hid (HT7.out.step hb)
  have HF8 := Lib.hid (HF7.out.below hb)
  have HR8 := Lib.hid (HR6.out.step hb)
  have HB8 := Lib.hid (HB7.out.trans (hb.mono HB7.out.size))
  clear hb HT7 HF7 HB7 HR6 x0 x1
  have x0 := HT8.out.c0
  have x1 := HT8.out.c1
  go_wp2_with fail
  refine (add_3 oa2 cap2 _ HF8.out).mono ?_
  rintro e w9 ⟨oa3, cap3, rfl, _, hf, hb⟩
  have HT9 := Lib.hid (HT8.out.step hb)
  have HF9 := Lib.hid (HF8.out.below hb)
  have HR9 := Lib.hid (HR8.out.step hb)
  have HB9 := Lib.hid (HB8.out.trans (hb.mono HB8.out.size))
  have HE9 := Lib.hid hf
  clear hb hf HT8 HF8 HB8 HR8 x0 x1
  have HU0 := Lib.hid (TRow.new w9 80 (.slice oa3 2 cap3))
  have HT10 := Lib.hid (HT9.out.alloc (.cells #[.int .i64 80, .slice oa3 2 cap3] 48))
  have HR10 := Lib.hid (HR9.out.alloc (.cells #[.int .i64 80, .slice oa3 2 cap3] 48))
  have hbn := (Below.refl w9.heap.size w9).alloc (Nat.le_refl _) (.cells #[.int .i64 80, .slice oa3 2 cap3] 48)
  have HF10 := Lib.hid (HF9.out.below hbn)
  have HE10 := Lib.hid (HE9.out.below hbn)
  have HB10 := Lib.hid (HB9.out.alloc HB9.out.size (.cells #[.int .i64 80, .slice oa3 2 cap3] 48))
  clear hbn
  go_upto_region 6 with fail
  generalize hq : w9.heap.size = q7 at HU0 ⊢
  generalize w9.alloc (.cells #[.int .i64 80, .slice oa3 2 cap3] 48) = w10 at HT10 HF10 HB10 HR10 HE10 HU0 ⊢
  clear hq HT9 HF9 HB9 HE9 HR9
  have x0 := HU0.out.c0
  have x1 := HU0.out.c1
  go_wp2_with fail
  refine (find_2 oa3 cap3 _ HE10.out).mono ?_
  rintro e w11 ⟨rfl, hb⟩
  have HT11 := Lib.hid (HT10.out.step hb)
  have HF11 := Lib.hid (HF10.out.below hb)
  have HE11 := Lib.hid (HE10.out.below hb)
  have HR11 := Lib.hid (HR10.out.step hb)
  have HU11 := Lib.hid (HU0.out.step hb)
  have HB11 := Lib.hid (HB10.out.trans (hb.mono HB10.out.size))
  clear hb HT10 HF10 HB10 HR10 HE10 HU0 x0 x1
  have x0 := HU11.out.c0
  have x1 := HU11.out.c1
  go_wp2_with fail
  refine (resize_1 oa3 cap3 _ HE11.out).mono ?_
  rintro e w12 ⟨oa4, cap4, rfl, hf, hb⟩
  have HT12 := Lib.hid (HT11.out.step hb)
  have HF12 := Lib.hid (HF11.out.below hb)
  have HE12 := Lib.hid (HE11.out.below hb)
  have HR12 := Lib.hid (HR11.out.step hb)
  have HU12 := Lib.hid (HU11.out.step hb)
  have HB12 := Lib.hid (HB11.out.trans (hb.mono HB11.out.size))
  have HV12 := Lib.hid hf
  clear hb hf HT11 HF11 HB11 HR11 HE11 HU11 x0 x1
  have HY0 := Lib.hid (TRow.new w12 40 (.slice oa4 1 cap4))
  have HT13 := Lib.hid (HT12.out.alloc (.cells #[.int .i64 40, .slice oa4 1 cap4] 48))
  have HR13 := Lib.hid (HR12.out.alloc (.cells #[.int .i64 40, .slice oa4 1 cap4] 48))
  have HU13 := Lib.hid (HU12.out.alloc (.cells #[.int .i64 40, .slice oa4 1 cap4] 48))
  have hbn := (Below.refl w12.heap.size w12).alloc (Nat.le_refl _) (.cells #[.int .i64 40, .slice oa4 1 cap4] 48)
  have HF13 := Lib.hid (HF12.out.below hbn)
  have HE13 := Lib.hid (HE12.out.below hbn)
  have HV13 := Lib.hid (HV12.out.below hbn)
  have HB13 := Lib.hid (HB12.out.alloc HB12.out.size (.cells #[.int .i64 40, .slice oa4 1 cap4] 48))
  clear hbn
  go_upto_region 8 with fail
  generalize hq : w12.heap.size = q10 at HY0 ⊢
  generalize w12.alloc (.cells #[.int .i64 40, .slice oa4 1 cap4] 48) = w13 at HT13 HF13 HB13 HR13 HE13 HU13 HV13 HY0 ⊢
  clear hq HT12 HF12 HB12 HE12 HR12 HU12 HV12
  have x0 := HU13.out.c0
  have x1 := HU13.out.c1
  go_wp2_with fail
  refine (resize_2 oa3 cap3 _ HE13.out).mono ?_
  rintro e w14 ⟨oa5, cap5, rfl, _, hb0⟩
  have hb := hb0.alloc hb0.size (.cells #[.int .i64 80, .slice oa5 2 cap5] 48)
  have HT14 := Lib.hid (HT13.out.step hb)
  have HF14 := Lib.hid (HF13.out.below hb)
  have HE14 := Lib.hid (HE13.out.below hb)
  have HR14 := Lib.hid (HR13.out.step hb)
  have HU14 := Lib.hid (HU13.out.step hb)
  have HV14 := Lib.hid (HV13.out.below hb)
  have HY14 := Lib.hid (HY0.out.step hb)
  have HB14 := Lib.hid (HB13.out.trans (hb.mono HB13.out.size))
  clear hb hb0 HT13 HF13 HB13 HR13 HE13 HU13 HV13 HY0 x0 x1
  obtain ⟨b4, o4, rfl, v0, _, _⟩ := HV14.out 0 fE rfl
  have x0 := HT14.out.c0
  have x1 := HT14.out.c1
  have f0 := HR14.out.c0
  have f1 := HR14.out.c1
  have f2 := HR14.out.c2
  have u1 := HU14.out.c1
  have y1 := HY14.out.c1
  simp only [fC, fE, ba, Nat.zero_mul, Nat.add_zero] at f0 f1 f2 v0
  go_wp2_with fail
  refine (size_1 oa2 cap2 _ HF14.out).mono ?_
  rintro e w15 ⟨rfl, hb⟩
  have HT15 := Lib.hid (HT14.out.step hb)
  have HF15 := Lib.hid (HF14.out.below hb)
  have HE15 := Lib.hid (HE14.out.below hb)
  have HU15 := Lib.hid (HU14.out.step hb)
  have HV15 := Lib.hid (HV14.out.below hb)
  have HY15 := Lib.hid (HY14.out.step hb)
  have HB15 := Lib.hid (HB14.out.trans (hb.mono HB14.out.size))
  clear hb HT14 HF14 HE14 HU14 HV14 HY14 HB14 x0 x1 f0 f1 f2 u1 y1 v0 HR14
  have x0 := HT15.out.c0
  have x1 := HT15.out.c1
  have u0 := HU15.out.c0
  have u1 := HU15.out.c1
  have y0 := HY15.out.c0
  have y1 := HY15.out.c1
  obtain ⟨_, _, hv, v0, _, _⟩ := HV15.out 0 fE rfl
  obtain ⟨rfl, rfl, _⟩ := Addr.mk.inj (Option.some.inj hv)
  simp only [fE, ba, Nat.zero_mul, Nat.add_zero] at v0
  clear hv
  go_wp2_with fail
  refine (check_1 _ cap4 _ HV15.out).mono ?_
  rintro e w16 ⟨rfl, hb⟩
  have HT16 := Lib.hid (HT15.out.step hb)
  have HF16 := Lib.hid (HF15.out.below hb)
  have HE16 := Lib.hid (HE15.out.below hb)
  have HU16 := Lib.hid (HU15.out.step hb)
  have HV16 := Lib.hid (HV15.out.below hb)
  have HY16 := Lib.hid (HY15.out.step hb)
  have HB16 := Lib.hid (HB15.out.trans (hb.mono HB15.out.size))
  clear hb HT15 HF15 HE15 HU15 HV15 HY15 HB15 x0 x1 u0 u1 y0 y1 v0
  have x0 := HT16.out.c0
  have x1 := HT16.out.c1
  have u0 := HU16.out.c0
  have u1 := HU16.out.c1
  have y0 := HY16.out.c0
  have y1 := HY16.out.c1
  obtain ⟨_, _, hv, v0, _, _⟩ := HV16.out 0 fE rfl
  obtain ⟨rfl, rfl, _⟩ := Addr.mk.inj (Option.some.inj hv)
  simp only [fE, ba, Nat.zero_mul, Nat.add_zero] at v0
  clear hv
  go_wp2_with fail
  refine (same_1 oa2 cap2 _ HF16.out).mono ?_
  rintro e w17 ⟨rfl, hb⟩
  have HT17 := Lib.hid (HT16.out.step hb)
  have HF17 := Lib.hid (HF16.out.below hb)
  have HE17 := Lib.hid (HE16.out.below hb)
  have HU17 := Lib.hid (HU16.out.step hb)
  have HV17 := Lib.hid (HV16.out.below hb)
  have HY17 := Lib.hid (HY16.out.step hb)
  have HB17 := Lib.hid (HB16.out.trans (hb.mono HB16.out.size))
  clear hb HT16 HF16 HE16 HU16 HV16 HY16 HB16 x0 x1 u0 u1 y0 y1 v0
  have x0 := HT17.out.c0
  have x1 := HT17.out.c1
  have u0 := HU17.out.c0
  have u1 := HU17.out.c1
  have y0 := HY17.out.c0
  have y1 := HY17.out.c1
  obtain ⟨_, _, hv, v0, _, _⟩ := HV17.out 0 fE rfl
  obtain ⟨rfl, rfl, _⟩ := Addr.mk.inj (Option.some.inj hv)
  simp only [fE, ba, Nat.zero_mul, Nat.add_zero] at v0
  clear hv
  go_wp2_with fail
  refine (same_2 oa2 oa3 cap2 cap3 _ HF17.out HE17.out).mono ?_
  rintro e w18 ⟨rfl, hb⟩
  have HT18 := Lib.hid (HT17.out.step hb)
  have HF18 := Lib.hid (HF17.out.below hb)
  have HE18 := Lib.hid (HE17.out.below hb)
  have HU18 := Lib.hid (HU17.out.step hb)
  have HV18 := Lib.hid (HV17.out.below hb)
  have HY18 := Lib.hid (HY17.out.step hb)
  have HB18 := Lib.hid (HB17.out.trans (hb.mono HB17.out.size))
  clear hb HT17 HF17 HE17 HU17 HV17 HY17 HB17 x0 x1 u0 u1 y0 y1 v0
  go_wp2_with fail
  go_ret
  exact ⟨rfl, HB18.out⟩
#print axioms awake04_any
end Go.Proofs.Ytmnaljnkgaebkaa
