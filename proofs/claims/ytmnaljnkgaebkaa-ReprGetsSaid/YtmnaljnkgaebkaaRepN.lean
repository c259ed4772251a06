/- footmanlaw05.awake: the walk. -/
import Derived.Test.YtmnaljnkgaebkaaRepL
namespace Go.Proofs.Ytmnaljnkgaebkaa
open Go.RowKit
set_option linter.unusedVariables false
set_option linter.unusedSimpArgs false

theorem IRow.far {W W' : World} {q k g : Nat} {i : Int} {nm vl : ByteArray} (h : IRow W q k i nm vl) (hg : W.grownBy W' (some g)) (hq : q ≠ g) : IRow W' q k i nm vl := (hg.block q h.lt (fun e => hq (Option.some.inj e))).trans h
theorem cells4_step {W W' : World} {b o : Nat} {v0 v1 v2 v3 : Value} (h : W.cell? ⟨b, o + 4, none⟩ = some v0 ∧ W.cell? ⟨b, o + 5, none⟩ = some v1 ∧ W.cell? ⟨b, o + 6, none⟩ = some v2 ∧ W.cell? ⟨b, o + 7, none⟩ = some v3) (hl : b < W.heap.size) (hb : Below W.heap.size W W') : W'.cell? ⟨b, o + 4, none⟩ = some v0 ∧ W'.cell? ⟨b, o + 5, none⟩ = some v1 ∧ W'.cell? ⟨b, o + 6, none⟩ = some v2 ∧ W'.cell? ⟨b, o + 7, none⟩ = some v3 :=
  ⟨(cell_eq (a := ⟨b, _, none⟩) (hb.block b hl)).trans h.1, (cell_eq (a := ⟨b, _, none⟩) (hb.block b hl)).trans h.2.1, (cell_eq (a := ⟨b, _, none⟩) (hb.block b hl)).trans h.2.2.1, (cell_eq (a := ⟨b, _, none⟩) (hb.block b hl)).trans h.2.2.2⟩
set_option maxRecDepth 100000 in
set_option maxHeartbeats 4000000 in
theorem awake05_any (w : World) : Calls Try.prog 42 #[] w fun e w' => e = .returned (.bool true) ∧ Below w.heap.size w w' := by
  obtain ⟨i0, hi0, hz0, hz1, hz2⟩ := info_parts u8_info
  have HI := Lib.hid hi0
  have HZ0 := Lib.hid hz0
  have HZ1 := Lib.hid hz1
  have HZ2 := Lib.hid hz2
  clear hi0 hz0 hz1 hz2
  have HX := Lib.hid (IRow.new w 1 1 ⟨#[]⟩ wwwS)
  have HB1 := Lib.hid ((Below.refl w.heap.size w).alloc (Nat.le_refl _) (.cells #[.int .u8 ((1 : Nat) : Int), .int .i64 1, .string ⟨#[]⟩, .string wwwS] 77))
  have HS := Lib.hid (show (w.alloc (.cells #[.int .u8 ((1 : Nat) : Int), .int .i64 1, .string ⟨#[]⟩, .string wwwS] 77)).heap.size = w.heap.size + 1 from by simp)
  simp only [wwwS] at HX HB1 HS
  go_enter Try.func42, Try.ntmps42
  go_upto_region 2 with fail
  generalize hW : w.alloc (.cells #[.int .u8 1, .int .i64 1, .string ⟨#[]⟩, .string ⟨#[119, 119, 119, 46, 101, 120, 97, 109, 112, 108, 101, 46, 99, 111, 109]⟩] 77) = w1 at HX HB1 HS ⊢
  clear hW
  have x0 := HX.out.c0
  have x1 := HX.out.c1
  have x2 := HX.out.c2
  have x3 := HX.out.c3
  go_wp2_with fail
  refine (put_14 _).mono ?_
  rintro e w2 ⟨g, cap, rfl, hh, hb⟩
  have HH2 := Lib.hid hh
  have HX2 := Lib.hid (HX.out.step hb)
  have HB2 := Lib.hid (HB1.out.trans (hb.mono HB1.out.size))
  clear hh hb HX HB1 x0 x1 x2 x3
  rw [HS.out] at HH2
  go_upto_region 3 with fail
  have HSZ := Lib.hid (show w.heap.size + 1 ≤ (w2.alloc (.cells #[.int .u8 1] 5)).heap.size from by have := HX2.out.lt; simp; omega)
  have hone : ∀ c : Int, ∀ u ∈ [Value.int .u8 c], u.oneCell' = true := by intro c u hu; simp at hu; subst hu; rfl
  go_wp2_with (at_builtin; go_loud (refine wpList_append_keep rfl _ _ 28 rfl (w.heap.size + 1) 5 i0 _ 1 1 Try.underlying28 HI.out HZ0.out HZ1.out HZ2.out rfl (by omega) g cap 14 (E14.map fun n : Nat => Value.int .u8 (n : Int)) rfl (World.ownsRow.alloc HH2.out.1 _) ⟨w2.heap.size, 0, none⟩ 1 1 [Value.int .u8 1] rfl rfl (cells_new w2 [Value.int .u8 1] _) (hone 1) (by unfold maxLen; omega) (by omega) HSZ.out ?_; intro v3 w3 hown3 hg3 hold3; have h15 := OwnB.has15 (c := 1) hown3; have hh14 := OwnB.has14 hold3; obtain ⟨g3, cap3, rfl, hh3⟩ := h15; have HH3 := Lib.hid hh3; have HO3 := Lib.hid hh14; have HX3 := Lib.hid (IRow.grown (HX2.out.alloc _) (v := .slice (some ⟨g, 0, none⟩) 14 cap) hg3 (fun q hq => by cases hq; exact HH2.out.2.2.2.1)); have HB3 := Lib.hid ((HB2.out.alloc HB2.out.size _).grown hg3 (Nat.le_of_succ_le HSZ.out) (fun q hq => by cases hq; exact Nat.le_of_succ_le HH2.out.2.2.2.1)); clear hown3 hg3 hold3 hh14 hh3 HX2 HB2 HH2 HSZ))
  refine (get_15 _ _ _ _ HH3.out).mono ?_
  rintro e w4 ⟨rfl, hb⟩
  have HX4 := Lib.hid (HX3.out.step hb)
  have HO4 := Lib.hid (HO3.out.step hb)
  have HB4 := Lib.hid (HB3.out.trans (hb.mono HB3.out.size))
  clear hb HX3 HO3 HB3 HH3
  have HY := Lib.hid (IRow.new w4 1 1 ⟨#[]⟩ wwwS)
  have HX5 := Lib.hid (HX4.out.alloc (.cells #[.int .u8 ((1 : Nat) : Int), .int .i64 1, .string ⟨#[]⟩, .string wwwS] 77))
  have HO5 := Lib.hid (HO4.out.step ((Below.refl w4.heap.size w4).alloc (Nat.le_refl _) (.cells #[.int .u8 ((1 : Nat) : Int), .int .i64 1, .string ⟨#[]⟩, .string wwwS] 77)))
  have HB5 := Lib.hid (HB4.out.alloc HB4.out.size (.cells #[.int .u8 ((1 : Nat) : Int), .int .i64 1, .string ⟨#[]⟩, .string wwwS] 77))
  have HQY := Lib.hid (show w.heap.size + 1 ≤ w4.heap.size from HX4.out.lt)
  have HGQ := Lib.hid (show g < w4.heap.size from HO4.out.2.2.2.2)
  simp only [wwwS] at HY HX5 HO5 HB5
  go_upto_region 4 with fail
  generalize hq : w4.heap.size = qy at HY HQY HGQ ⊢
  generalize w4.alloc (.cells #[.int .u8 1, .int .i64 1, .string ⟨#[]⟩, .string ⟨#[119, 119, 119, 46, 101, 120, 97, 109, 112, 108, 101, 46, 99, 111, 109]⟩] 77) = w5 at HY HX5 HO5 HB5 ⊢
  clear hq HX4 HO4 HB4
  have HSZ := Lib.hid (show w.heap.size + 1 ≤ (w5.alloc (.cells #[.int .u8 130] 5)).heap.size from by have := HX5.out.lt; simp; omega)
  go_wp2_with (at_builtin; go_loud (refine wpList_append_keep rfl _ _ 28 rfl (w.heap.size + 1) 5 i0 _ 1 1 Try.underlying28 HI.out HZ0.out HZ1.out HZ2.out rfl (by omega) g cap 14 (E14.map fun n : Nat => Value.int .u8 (n : Int)) rfl (World.ownsRow.alloc HO5.out.1 _) ⟨w5.heap.size, 0, none⟩ 1 1 [Value.int .u8 130] rfl rfl (cells_new w5 [Value.int .u8 130] _) (hone 130) (by unfold maxLen; omega) (by omega) HSZ.out ?_; intro v6 w6 hown6 hg6 hold6; have h15 := OwnB.has15 (c := 130) hown6; have hh14 := OwnB.has14 hold6; obtain ⟨g6, cap6, rfl, hh6⟩ := h15; have HH6 := Lib.hid hh6; have HO6 := Lib.hid hh14; have HX6 := Lib.hid (IRow.grown (HX5.out.alloc _) (v := .slice (some ⟨g, 0, none⟩) 14 cap) hg6 (fun q hq => by cases hq; exact HO5.out.2.2.2.1)); have HY6 := Lib.hid (IRow.far (HY.out.alloc _) hg6 (Nat.ne_of_gt HGQ.out)); have HB6 := Lib.hid ((HB5.out.alloc HB5.out.size _).grown hg6 (Nat.le_of_succ_le HSZ.out) (fun q hq => by cases hq; exact Nat.le_of_succ_le HO5.out.2.2.2.1)); clear hown6 hg6 hold6 hh14 hh6 HX5 HB5 HO5 HY HSZ))
  refine (all_15 _ _ _ _ HH6.out).mono ?_
  rintro e w7 ⟨bl, ol, cl, rfl, hl, hbl, hb⟩
  have HX7 := Lib.hid (HX6.out.step hb)
  have HY7 := Lib.hid (HY6.out.step hb)
  have HO7 := Lib.hid (HO6.out.step hb)
  have HB7 := Lib.hid (HB6.out.trans (hb.mono HB6.out.size))
  have HL7 := Lib.hid hl
  have HBL7 := Lib.hid hbl
  clear hb HX6 HO6 HB6 HH6 HY6 hl hbl
  go_upto_region 5 with fail
  have hstep1 := (Below.refl w7.heap.size w7).alloc (Nat.le_refl _) (.cells #[.int .u8 128] 5)
  go_wp2_with fail
  refine (get_80 _ _ (bytes_new w7 5 [128])).mono ?_
  rintro e w8 ⟨rfl, hb0⟩
  have hb := (hstep1.trans (hb0.mono hstep1.size)).alloc (Nat.le_trans hstep1.size hb0.size) (.cells #[.int .u8 0, .int .i64 0, .string ⟨#[]⟩, .string ⟨#[]⟩] 77)
  have HX8 := Lib.hid (HX7.out.step hb)
  have HY8 := Lib.hid (HY7.out.step hb)
  have HO8 := Lib.hid (HO7.out.step hb)
  have HB8 := Lib.hid (HB7.out.trans (hb.mono HB7.out.size))
  have HL8 := Lib.hid (cells4_step HL7.out HBL7.out hb)
  have HBL8 := Lib.hid (Nat.lt_of_lt_of_le HBL7.out hb.size)
  clear hb hb0 hstep1 HX7 HO7 HB7 HY7 HL7 HBL7
  go_upto_region 6 with fail
  generalize w8.alloc (.cells #[.int .u8 0, .int .i64 0, .string ⟨#[]⟩, .string ⟨#[]⟩] 77) = w9 at HX8 HY8 HO8 HB8 HL8 HBL8 ⊢
  go_wp2_with fail
  refine (put_5 _).mono ?_
  rintro e w10 ⟨rfl, hb⟩
  have HX10 := Lib.hid (HX8.out.step hb)
  have HY10 := Lib.hid (HY8.out.step hb)
  have HO10 := Lib.hid (HO8.out.step hb)
  have HB10 := Lib.hid (HB8.out.trans (hb.mono HB8.out.size))
  have HL10 := Lib.hid (cells4_step HL8.out HBL8.out hb)
  have HBL10 := Lib.hid (Nat.lt_of_lt_of_le HBL8.out hb.size)
  clear hb HX8 HO8 HB8 HY8 HL8 HBL8
  have hstep1 := (Below.refl w10.heap.size w10).alloc (Nat.le_refl _) (.cells #[.int .u8 2, .int .u8 97, .int .u8 98, .int .u8 99] 5)
  go_wp2_with fail
  refine (text_3 _ _ (bytes_new w10 5 [2, 97, 98, 99])).mono ?_
  rintro e w11 ⟨rfl, hb0⟩
  have hb := hstep1.trans (hb0.mono hstep1.size)
  have HX11 := Lib.hid (HX10.out.step hb)
  have HY11 := Lib.hid (HY10.out.step hb)
  have HO11 := Lib.hid (HO10.out.step hb)
  have HB11 := Lib.hid (HB10.out.trans (hb.mono HB10.out.size))
  have HL11 := Lib.hid (cells4_step HL10.out HBL10.out hb)
  clear hb hb0 hstep1 HX10 HO10 HB10 HY10 HL10 HBL10
  have x0 := HX11.out.c0
  have x1 := HX11.out.c1
  have x2 := HX11.out.c2
  have x3 := HX11.out.c3
  have y0 := HY11.out.c0
  have y1 := HY11.out.c1
  have y2 := HY11.out.c2
  have y3 := HY11.out.c3
  obtain ⟨l0, l1, l2, l3⟩ := HL11.out
  have hcv : (convert 28 9 (.slice (some ⟨g, 0, none⟩) 14 cap)).run Try.prog w11 = .ok (.string ⟨#[65, 140, 241, 227, 194, 229, 242, 58, 107, 160, 171, 144, 244, 255]⟩) w11 := text_own w11 _ _ [65, 140, 241, 227, 194, 229, 242, 58, 107, 160, 171, 144, 244, 255] HO11.out.1
  go_upto_region 8 with fail
  simp only [List.append]
  go_wp2_with fail
  refine (text_0 _).mono ?_
  rintro e w12 ⟨v12, rfl, ho, hb⟩
  have hcv2 : (convert 28 9 v12).run Try.prog w12 = .ok (.string ⟨#[1, 0]⟩) w12 := text_own w12 _ _ [1, 0] ho
  have HX12 := Lib.hid (HX11.out.step hb)
  have HB12 := Lib.hid (HB11.out.trans (hb.mono HB11.out.size))
  clear hb ho hcv x0 x1 x2 x3 y0 y1 y2 y3 l0 l1 l2 l3 HX11 HB11 HO11 HY11 HL11
  have x0 := HX12.out.c0
  have x1 := HX12.out.c1
  have x2 := HX12.out.c2
  have x3 := HX12.out.c3
  go_wp2_with fail
  refine (check_14 _).mono ?_
  rintro e w13 ⟨rfl, hb⟩
  have HB13 := Lib.hid (HB12.out.trans (hb.mono HB12.out.size))
  clear hb
  go_wp2_with fail
  go_ret
  exact ⟨rfl, HB13.out⟩
#print axioms awake05_any
end Go.Proofs.Ytmnaljnkgaebkaa
