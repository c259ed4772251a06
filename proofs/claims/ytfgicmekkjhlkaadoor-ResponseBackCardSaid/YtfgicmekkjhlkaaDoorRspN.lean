/- ResponseBack: the walk. -/
import Derived.Test.YtfgicmekkjhlkaaDoorRspK
import Derived.Test.YtfgicmekkjhlkaaDoorRspM
import Derived.Test.YtfgicmekkjhlkaaDoorAppB
import Derived.Deep.RegionHeld
namespace Go.Proofs.YtfgicmekkjhlkaaDoor
open Go.RowKit
set_option linter.unusedVariables false
set_option linter.unusedSimpArgs false

theorem xor_one : ∀ k : Fin 26, ∃ x : Nat, x < 256 ∧ x ≠ 97 + k.val ∧ bits BinOp.xor IntKind.u8 ((97 + k.val : Nat) : Int) 1 = (x : Int) := by
  intro k
  refine ⟨(97 + k.val) ^^^ 1, ?_, ?_, ?_⟩ <;> revert k <;> decide +kernel
/-- Three small numbers in a block. -/
def NRow (W : World) (q : Nat) (a b c : Nat) : Prop := W.heap[q]? = some (.cells #[.int .u16 (a : Int), .int .u16 (b : Int), .int .u16 (c : Int)] 46 (0, 0))
theorem NRow.c0 {W : World} {q a b c : Nat} (h : NRow W q a b c) : W.cell? ⟨q, 0, none⟩ = some (.int .u16 (a : Int)) := cell_of_row _ _ _ _ _ _ h
theorem NRow.c1 {W : World} {q a b c : Nat} (h : NRow W q a b c) : W.cell? ⟨q, 1, none⟩ = some (.int .u16 (b : Int)) := cell_of_row _ _ _ _ _ _ h
theorem NRow.c2 {W : World} {q a b c : Nat} (h : NRow W q a b c) : W.cell? ⟨q, 2, none⟩ = some (.int .u16 (c : Int)) := cell_of_row _ _ _ _ _ _ h
theorem NRow.lt {W : World} {q a b c : Nat} (h : NRow W q a b c) : q < W.heap.size := World.block_lt_of_cell? W ⟨q, 0, none⟩ h.c0
theorem NRow.step {W W' : World} {q a b c : Nat} (h : NRow W q a b c) (hb : Below W.heap.size W W') : NRow W' q a b c := (hb.block q h.lt).trans h
theorem start18 (w : World) (s l r : Int) (a b c : Nat) :
    NRow (((w.alloc (.cells #[.int .i64 s, .int .i64 l, .int .i64 r] 23)).alloc (.cells #[.int .u16 (a : Int), .int .u16 (b : Int), .int .u16 (c : Int)] 46)).alloc (.cells #[.int .i64 s, .int .i64 l, .int .i64 r] 28)) (w.heap.size + 1) a b c ∧
    XRow 28 (((w.alloc (.cells #[.int .i64 s, .int .i64 l, .int .i64 r] 23)).alloc (.cells #[.int .u16 (a : Int), .int .u16 (b : Int), .int .u16 (c : Int)] 46)).alloc (.cells #[.int .i64 s, .int .i64 l, .int .i64 r] 28)) (w.heap.size + 1 + 1) s l r ∧
    Below w.heap.size w (((w.alloc (.cells #[.int .i64 s, .int .i64 l, .int .i64 r] 23)).alloc (.cells #[.int .u16 (a : Int), .int .u16 (b : Int), .int .u16 (c : Int)] 46)).alloc (.cells #[.int .i64 s, .int .i64 l, .int .i64 r] 28)) := by
  have b1 := (Below.refl w.heap.size w).alloc (Nat.le_refl _) (.cells #[.int .i64 s, .int .i64 l, .int .i64 r] 23)
  have s1 : (w.alloc (.cells #[.int .i64 s, .int .i64 l, .int .i64 r] 23)).heap.size = w.heap.size + 1 := by simp
  generalize w.alloc (.cells #[.int .i64 s, .int .i64 l, .int .i64 r] 23) = wa at *
  have b2 := b1.alloc b1.size (.cells #[.int .u16 (a : Int), .int .u16 (b : Int), .int .u16 (c : Int)] 46)
  have hn : NRow (wa.alloc (.cells #[.int .u16 (a : Int), .int .u16 (b : Int), .int .u16 (c : Int)] 46)) wa.heap.size a b c := heap_alloc_new wa _
  have s2 : (wa.alloc (.cells #[.int .u16 (a : Int), .int .u16 (b : Int), .int .u16 (c : Int)] 46)).heap.size = wa.heap.size + 1 := by simp
  generalize wa.alloc (.cells #[.int .u16 (a : Int), .int .u16 (b : Int), .int .u16 (c : Int)] 46) = wb at *
  have b3 := b2.alloc b2.size (.cells #[.int .i64 s, .int .i64 l, .int .i64 r] 28)
  have hx := XRow.new 28 wb s l r
  rw [s2, s1] at hx
  rw [s1] at hn
  exact ⟨hn.step ((Below.refl _ wb).alloc (Nat.le_refl _) _), hx, b3⟩
theorem body_nat (f m : Nat) (h : m ≤ 65536) (W : World) : Calls Tryd.prog 22 #[.int .i64 (f : Int), .int .i64 (m : Int)] W fun e w' => ∃ oa cap, e = .returned (.slice oa m cap) ∧ BytesN w' oa (bodyL f m) ∧ m ≤ cap ∧ Below W.heap.size W w' := by
  refine (body_any f m W).mono ?_
  rintro e w' ⟨oa, cap, rfl, hby, hc, _, hb⟩
  rw [bodyI_nat f m h] at *
  rw [bodyL_len] at *
  exact ⟨oa, cap, rfl, hby, hc, hb⟩
set_option maxRecDepth 100000 in
set_option maxHeartbeats 20000000 in
theorem respBack_any (s l r : Int) (n0 n1 n2 t : Nat) (w : World) (hT : Tab w) (h0 : n0 < 65536) (h1 : n1 < 65536) (h2 : n2 < 65536) (ht : t < 4294967296) :
    Calls Tryd.prog 5 #[.agg #[.int .i64 s, .int .i64 l, .int .i64 r], .agg #[.int .u16 n0, .int .u16 n1, .int .u16 n2], .int .u32 t] w fun e w' => e = .returned (.bool true) ∧ Below w.heap.size w w' := by
  have HT := Lib.hid hT
  have HAW := Lib.hid (fun W hW => awake18_any W hW)
  have HP := Lib.hid (fun W hW => (fields_any s l r W hW).mono (fun e w' h => fields_post h))
  have HC := Lib.hid (fun W => check_any s l r W)
  unfold FPost at HP
  obtain ⟨hs1, hs2, hs3⟩ := start18 w s l r n0 n1 n2
  have HN0 := Lib.hid hs1
  have HX0 := Lib.hid hs2
  have HB0 := Lib.hid hs3
  clear hs1 hs2 hs3 hT
  by_cases he : respE s l r = 0
  · have hRR : readR (FL s l r) = ((s, l, r), true) ∧ ∀ f ∈ FL s l r, f.value.size ≤ maxLen := by
      have hL : FL s l r = fieldsR s.toNat l.toNat r.toNat := if_pos he
      obtain ⟨a, b, c, rfl, rfl, rfl, ha1, ha2, hb1, hc1⟩ := respOk_nat he
      rw [hL, Int.toNat_natCast, Int.toNat_natCast, Int.toNat_natCast]
      refine ⟨read_fields a b c ha1 ha2 hb1 hc1, fun f hf => ?_⟩
      have d1 := decS_size a (by omega)
      have d2 := decS_size b (by omega)
      have d3 := decS_size c (by omega)
      unfold fieldsR at hf
      unfold maxLen
      split at hf <;> simp at hf
      · rcases hf with rfl | rfl <;> simp only <;> omega
      · rcases hf with rfl | rfl | rfl <;> simp only <;> omega
    have hlen := FL_len s l r
    have HR := Lib.hid (fun oa ca (hc : (FL s l r).length ≤ ca) W (hf : FieldsN W oa (FL s l r)) => read_any oa (FL s l r).length ca (FL s l r) rfl hc (by omega) hRR.2 W hf)
    unfold ReadPost at HR
    rw [hRR.1] at HR
    simp only at HR
    rw [he] at HP HC
    clear hRR he
    generalize FL s l r = L at HP HR hlen
    generalize L.length = n at HP HR hlen
    obtain ⟨m, hm, hm2⟩ : ∃ m : Nat, (n1 : Int) % 2001 = (m : Int) ∧ m ≤ 2000 := ⟨n1 % 2001, by omega, by omega⟩
    obtain ⟨c, hc, hc2⟩ : ∃ c : Nat, (n2 : Int) % ((m : Int) + 1) = (c : Int) ∧ c ≤ m := ⟨n2 % (m + 1), (Int.natCast_emod n2 (m + 1)).symm, Nat.le_of_lt_succ (Nat.mod_lt _ (by omega))⟩
    have u0 : IntKind.i64.wrap (n0 : Int) = (n0 : Int) := IntWalk.i64_in _ (by omega)
    have u1 : IntKind.i64.wrap (n1 : Int) = (n1 : Int) := IntWalk.i64_in _ (by omega)
    have u2 : IntKind.i64.wrap (n2 : Int) = (n2 : Int) := IntWalk.i64_in _ (by omega)
    have u3 : IntKind.i64.wrap (m : Int) = (m : Int) := IntWalk.i64_in _ (by omega)
    have u4 : IntKind.i64.wrap ((m : Int) + 1) = (m : Int) + 1 := IntWalk.i64_in _ (by omega)
    have u5 : IntKind.i64.wrap (c : Int) = (c : Int) := IntWalk.i64_in _ (by omega)
    have u9' : IntKind.i64.wrap (t : Int) = (t : Int) := IntWalk.i64_in _ (by omega)
    obtain ⟨p, hp⟩ : ∃ p : Nat, 1 + n2 = p := ⟨_, rfl⟩
    have u10 : 1 + (n2 : Int) = (p : Int) := by omega
    have hp2 : 1 ≤ p := by omega
    have u11 : IntKind.i64.wrap (p : Int) = (p : Int) := IntWalk.i64_in _ (by omega)
    have u12 : IntKind.i64.wrap (1 + (n2 : Int)) = 1 + (n2 : Int) := IntWalk.i64_in _ (by omega)
    have ht1 : (Lit.int .i64 (t : Int)).wf = true := by
      have e1 : IntKind.i64.min = -9223372036854775808 := rfl
      have e2 : IntKind.i64.max = 9223372036854775807 := rfl
      simp only [Lit.wf, Bool.and_eq_true, decide_eq_true_eq, e1, e2]; omega
    have hp1 : (Lit.int .i64 (p : Int)).wf = true := by
      have e1 : IntKind.i64.min = -9223372036854775808 := rfl
      have e2 : IntKind.i64.max = 9223372036854775807 := rfl
      simp only [Lit.wf, Bool.and_eq_true, decide_eq_true_eq, e1, e2]; omega
    have HPL := Lib.hid (show p ≤ 65536 from by omega)
    clear hp
    go_enter Tryd.func5, Tryd.ntmps5
    go_upto_region 2 with fail
    generalize ((w.alloc (.cells #[.int .i64 s, .int .i64 l, .int .i64 r] 23)).alloc (.cells #[.int .u16 (n0 : Int), .int .u16 (n1 : Int), .int .u16 (n2 : Int)] 46)).alloc (.cells #[.int .i64 s, .int .i64 l, .int .i64 r] 28) = w1 at HN0 HX0 HB0 ⊢
    generalize hqn : w.heap.size + 1 = qn at HN0 HX0 ⊢
    generalize hqx : qn + 1 = qx at HX0 ⊢
    have HQ := Lib.hid (show w.heap.size ≤ qn ∧ qn < qx from by omega)
    clear hqn hqx
    have x0 := HX0.out.c0
    have x1 := HX0.out.c1
    have x2 := HX0.out.c2
    go_wp2_with fail
    refine (HP.out _ (HT.out.below HB0.out)).mono ?_
    rintro e w2 ⟨oa, ca, rfl, hfa, hnc, hb⟩
    have HX2 := Lib.hid (HX0.out.step hb)
    have HN2 := Lib.hid (HN0.out.step hb)
    have HB2 := Lib.hid (HB0.out.trans (hb.mono HB0.out.size))
    have HFA := Lib.hid hfa
    clear hb hfa x0 x1 x2 HX0 HB0 HN0
    have x0 := HX2.out.c0
    have x1 := HX2.out.c1
    have x2 := HX2.out.c2
    go_wp2_with fail
    refine (HC.out _).mono ?_
    rintro e w3 ⟨rfl, hb⟩
    have HX3 := Lib.hid (HX2.out.step hb)
    have HN3 := Lib.hid (HN2.out.step hb)
    have HB3 := Lib.hid (HB2.out.trans (hb.mono HB2.out.size))
    have HF3 := Lib.hid (HFA.out.below hb)
    clear hb HX2 HB2 HN2 HFA x0 x1 x2
    go_wp2_with fail
    refine (HR.out oa ca hnc _ HF3.out).mono ?_
    rintro e w4 ⟨rfl, hb⟩
    have HX4 := Lib.hid (HX3.out.step hb)
    have HN4 := Lib.hid (HN3.out.step hb)
    have HB4 := Lib.hid (HB3.out.trans (hb.mono HB3.out.size))
    clear hb HX3 HB3 HN3 HF3
    go_upto_region 6 with fail
    have HY5 := Lib.hid (XRow.new 28 w4 s l r)
    have hal := (Below.refl w4.heap.size w4).alloc (Nat.le_refl _) (.cells #[.int .i64 s, .int .i64 l, .int .i64 r] 28)
    have HX5 := Lib.hid (HX4.out.step hal)
    have HN5 := Lib.hid (HN4.out.step hal)
    have HB5 := Lib.hid (HB4.out.trans (hal.mono HB4.out.size))
    have HQ2 := Lib.hid (show qx < w4.heap.size from HX4.out.lt)
    clear hal HX4 HN4 HB4
    generalize w4.alloc (.cells #[.int .i64 s, .int .i64 l, .int .i64 r] 28) = w5 at HY5 HX5 HN5 HB5 ⊢
    generalize w4.heap.size = qy at HY5 HQ2 ⊢
    have y0 := HN5.out.c0
    have y1 := HN5.out.c1
    have y2 := HN5.out.c2
    go_region
    go_upto_region 8 with fail
    rw [hm, hc]
    clear y0 y1 y2 hm hc
    obtain ⟨f2, hf2⟩ : ∃ f2 : Nat, n0 + c = f2 := ⟨_, rfl⟩
    obtain ⟨c2, hc2'⟩ : ∃ c2 : Nat, m - c = c2 := ⟨_, rfl⟩
    have u6 : IntKind.i64.wrap ((n0 : Int) + (c : Int)) = (f2 : Int) := by rw [IntWalk.i64_in _ (by omega)]; omega
    have u7 : IntKind.i64.wrap ((m : Int) - (c : Int)) = (c2 : Int) := by rw [IntWalk.i64_in _ (by omega)]; omega
    have HB1 := Lib.hid (fun W => body_nat n0 c (by omega) W)
    have HB2 := Lib.hid (fun W => body_nat f2 c2 (by omega) W)
    have HM := Lib.hid (show bodyL n0 c ++ bodyL f2 c2 = bodyL n0 m by rw [← hf2, ← hc2']; exact body_two n0 c m hc2)
    have HM2 := Lib.hid (show c + c2 = m from by omega)
    have HM3 := Lib.hid hc2
    clear hf2 hc2' hc2
    have HO0 := Lib.hid (show OwnB (w5.alloc (.cells #[] 5)).drew w5.heap.size (.slice (some ⟨w5.heap.size, 0, none⟩) 0 0) [] from OwnB.step (w := w5.alloc (.cells #[] 5)) (World.ownsRow_lit (e := 5) (size := 1) w5 #[] 0 (Nat.le_refl _) (Nat.zero_le _) rfl) (fun k _ _ => rfl))
    have HBZ := Lib.hid ((Below.refl w5.heap.size w5).alloc (Nat.le_refl _) (.cells #[] 5)).drew
    have HL1 := Lib.hid (bodyL_len n0 c)
    have HL2 := Lib.hid (bodyL_len f2 c2)
    generalize bodyL n0 c = b1 at HB1 HM HL1
    generalize bodyL f2 c2 = b2 at HB2 HM HL2
    go_wp2_with fail
    generalize (w5.alloc (.cells #[] 5)).drew = w6 at HO0 HBZ ⊢
    generalize hv0 : Value.slice (some ⟨w5.heap.size, 0, none⟩) 0 0 = v0 at HO0 ⊢
    clear hv0
    refine (HB1.out _).mono ?_
    rintro e w7 ⟨o1, p1, rfl, hby, hp1, hb⟩
    have HO7 := Lib.hid (show OwnB w7 w5.heap.size v0 [] from owns_below HO0.out hb)
    have HB7 := Lib.hid (HBZ.out.trans (hb.mono HBZ.out.size))
    have HBY := Lib.hid hby
    have HS7 := Lib.hid HB7.out.size
    have HP1 := Lib.hid hp1
    have hk1 := Lib.hid (show ([] : List Nat).length + c ≤ 140737488355328 from by have := HM3.out; simp; omega)
    clear hb hby hp1 HO0 HBZ
    go_wp2_with (at_builtin; go_loud (refine wpList_appB rfl _ _ rfl w5.heap.size v0 [] rfl HO7.out o1 c p1 b1 rfl HL1.out HP1.out HBY.out hk1.out HS7.out ?_); intro v8 w8 hown8 hb8)
    have HO8 := Lib.hid (show OwnB w8 w5.heap.size v8 b1 from hown8)
    have HB8 := Lib.hid (HB7.out.trans hb8)
    clear hown8 hb8 HO7 HB7 HBY HS7 HP1 hk1
    refine (HB2.out _).mono ?_
    rintro e w9 ⟨o2, p2, rfl, hby, hp1, hb⟩
    have HO9 := Lib.hid (show OwnB w9 w5.heap.size v8 b1 from owns_below HO8.out hb)
    have HB9 := Lib.hid (HB8.out.trans (hb.mono HB8.out.size))
    have HBY := Lib.hid hby
    have HS9 := Lib.hid HB9.out.size
    have HP1 := Lib.hid hp1
    have hk1 := Lib.hid (show b1.length + c2 ≤ 140737488355328 from by rw [HL1.out]; have := HM2.out; omega)
    clear hb hby hp1 HO8 HB8
    go_wp2_with (at_builtin; refine wpList_appB rfl _ _ rfl w5.heap.size v8 b1 rfl HO9.out o2 c2 p2 b2 rfl HL2.out HP1.out HBY.out hk1.out HS9.out ?_; intro v10 w10 hown10 hb10)
    have hown := OwnB.mono hown10 (Nat.le_refl _)
    rw [HM.out] at hown
    obtain ⟨ob, cap, rfl, hbyb, hmc, _, hno, hat⟩ := hown.form2
    have hBl := bodyL_len n0 m
    have HW1 := Lib.hid (whole_yes n0 m (by omega))
    have HW2 := Lib.hid (fun i x (hi : i < m) (hx : x < 256) (hne : x ≠ 97 + (n0 + i) % 26) => whole_no n0 m i x (by omega) hi hx hne)
    have HW3 := Lib.hid (fun i (hi : i < m) => bodyL_get n0 m i hi)
    have HB3 := Lib.hid (fun W => body_nat n0 m (by omega) W)
    have HBA := Lib.hid (bodyL_byte n0 m)
    rw [hBl] at hmc ⊢
    generalize bodyL n0 m = B at hbyb hBl HW1 HW2 HW3 HB3 HBA
    have HBL := Lib.hid hBl
    have HBB := Lib.hid (getD_all HBA.out)
    have HBY := Lib.hid hbyb
    have HAT := Lib.hid hat
    have HNO := Lib.hid hno
    have HMC := Lib.hid hmc
    have HBW := Lib.hid (HB9.out.trans hb10)
    have HX10 := Lib.hid (HX5.out.step HBW.out)
    have HY10 := Lib.hid (HY5.out.step HBW.out)
    have HN10 := Lib.hid (HN5.out.step HBW.out)
    have HB10 := Lib.hid (HB5.out.trans (HBW.out.mono HB5.out.size))
    have HWH := Lib.hid (fun W (hW : Below w10.heap.size w10 W) => whole_any ob m cap B n0 hBl HBA.out W (hbyb.below hW))
    rw [HW1.out] at HWH
    have HYLT := Lib.hid (show qy < w5.heap.size from HY5.out.lt)
    clear hown10 hb10 hown hbyb hat hno hmc hBl HO9 HB9 HS9 HP1 hk1 HL1 HL2 HM HB1 HB2 HX5 HY5 HN5 HBW
    have HF := Lib.hid (show ∀ W, Below w10.heap.size w10 W → (Below w10.heap.size w10 W ∧ W.cell? ⟨qx, 0, none⟩ = some (.int .i64 s) ∧ W.cell? ⟨qx, 1, none⟩ = some (.int .i64 l) ∧ W.cell? ⟨qx, 2, none⟩ = some (.int .i64 r) ∧ W.cell? ⟨qy, 0, none⟩ = some (.int .i64 s) ∧ W.cell? ⟨qy, 1, none⟩ = some (.int .i64 l) ∧ W.cell? ⟨qy, 2, none⟩ = some (.int .i64 r) ∧ (convert 42 9 (.slice ob m cap)).run Tryd.prog W = .ok (.string (bsB B)) W) from fun W hW => ⟨hW, (HX10.out.step hW).c0, (HX10.out.step hW).c1, (HX10.out.step hW).c2, (HY10.out.step hW).c0, (HY10.out.step hW).c1, (HY10.out.step hW).c2, conv_bytes W ob m cap B HBL.out (HBY.out.below hW) HBB.out⟩)
    have H0 := Lib.hid (HF.out w10.drew (Below.refl _ _).drew)
    go_region_held (fun W => Below w10.heap.size w10 W ∧ W.cell? ⟨qx, 0, none⟩ = some (.int .i64 s) ∧ W.cell? ⟨qx, 1, none⟩ = some (.int .i64 l) ∧ W.cell? ⟨qx, 2, none⟩ = some (.int .i64 r) ∧ W.cell? ⟨qy, 0, none⟩ = some (.int .i64 s) ∧ W.cell? ⟨qy, 1, none⟩ = some (.int .i64 l) ∧ W.cell? ⟨qy, 2, none⟩ = some (.int .i64 r) ∧ (convert 42 9 (.slice ob m cap)).run Tryd.prog W = .ok (.string (bsB B)) W) (first | exact HBN | exact H0.out) (first
      | (go_at_call 22; refine (HB3.out _).mono ?_; rintro e w' ⟨o3, p3, rfl, hby3, _, hb⟩; have hcv3 := conv_bytes w' o3 _ p3 B HBL.out hby3 HBB.out; have HBN := HF.out _ (bs_step hb (by assumption)))
      | (go_at_call 24; refine (HWH.out _ (And.left (by assumption))).mono ?_; rintro e w' ⟨rfl, hb⟩; have HBN := HF.out _ (bs_step hb (by assumption))))
    all_goals
      have HBX := Lib.hid HBN.1
      have HNX := Lib.hid (HN10.out.step HBX.out)
      have HBY2 := Lib.hid (HBY.out.below HBX.out)
      have HBALL := Lib.hid (HB10.out.trans (HBX.out.mono HB10.out.size))
      have HLOW := Lib.hid (show ∀ a, ob = some a → w.heap.size ≤ a.block ∧ qn < a.block ∧ (∃ cur, w'.heap[a.block]? = some (.cells cur 5 (0, 0))) ∧ a.off = 0 ∧ a.spot = none from fun a ha => by
        obtain ⟨h1, h2, ⟨cur, h3⟩, h4, h5⟩ := HAT.out a ha
        have := HQ.out
        have := HQ2.out
        have := HYLT.out
        exact ⟨by omega, by omega, ⟨cur, (HBX.out.block _ h5).trans h3⟩, h1, h2⟩)
      clear HBN HF H0 HX10 HY10 HN10 HB10 HWH HBY HB3 hb hby3 hcv3
      clear HBX
      by_cases hm0 : m = 0
      · subst hm0
        have HBZY := Lib.hid (HBY2.out)
        have HNZ := Lib.hid (HNX.out)
        have HBZ := Lib.hid (HBALL.out)
        have HBLZ := Lib.hid (HBL.out)
        have HBAZ := Lib.hid (HBA.out)
        have HWZ := Lib.hid (HW1.out)
        generalize w' = wz at HBZY HNZ HBZ ⊢
        generalize B = Bz at HBZY HBLZ HBAZ HWZ
        have HWH := Lib.hid (fun W (hW : Below wz.heap.size wz W) => whole_any ob 0 cap Bz n0 HBLZ.out HBAZ.out W (HBZY.out.below hW))
        rw [HWZ.out] at HWH
        have y2 := HNZ.out.c2
        go_upto_region 13 with fail
        go_region
        clear y2
        by_cases ht0 : t = 0
        · subst ht0
          have hwt := wait_no (t := 0) (p := (p : Int)) (.inl (by omega))
          have HWT := Lib.hid (fun W => wait_any 0 (p : Int) (by decide) hp1 W)
          rw [hwt] at HWT
          clear hwt
          go_wp2_with fail
          with_reducible refine (HWT.out _).mono ?_
          rintro e w11 ⟨rfl, rfl⟩
          go_wp2_with fail
          with_reducible refine (HWH.out _ (Below.refl _ _).drew).mono ?_
          rintro e w12 ⟨rfl, hb⟩
          have HB12 := Lib.hid (HBZ.out.trans (((Below.refl wz.heap.size wz).drew.trans hb).mono HBZ.out.size))
          go_wp2_with fail
          with_reducible refine (HAW.out _ (HT.out.below HB12.out)).mono ?_
          rintro e w13 ⟨rfl, hb⟩
          go_wp2_with fail
          go_ret
          exact ⟨rfl, HB12.out.trans (hb.mono HB12.out.size)⟩
        · have hwt := wait_nat t p (by omega) hp2
          have HWT := Lib.hid (fun W => wait_any (t : Int) (p : Int) ht1 hp1 W)
          rw [hwt] at HWT
          obtain ⟨k1, k2, k3⟩ := wait_law t p (by omega) hp2
          generalize (t - 1) / p + 1 = q at HWT k1 k2 k3
          have k4 : q * p < 4295032832 := by
            have := HPL.out
            have : (q - 1) * p + p = q * p := by rw [← Nat.succ_mul]; congr 1; omega
            omega
          have v1 : IntKind.i64.wrap ((q : Int) * (p : Int)) = ((q * p : Nat) : Int) := by rw [IntWalk.i64_in _ (by rw [← Int.natCast_mul]; omega), Int.natCast_mul]
          have v2 : IntKind.i64.wrap ((q : Int) - 1) = ((q - 1 : Nat) : Int) := by
            have : q ≤ q * p := Nat.le_mul_of_pos_right q hp2
            rw [IntWalk.i64_in _ (by omega)]; omega
          generalize q - 1 = q1 at v2 k3
          have v3 : IntKind.i64.wrap ((q1 : Int) * (p : Int)) = ((q1 * p : Nat) : Int) := by rw [IntWalk.i64_in _ (by rw [← Int.natCast_mul]; omega), Int.natCast_mul]
          generalize q1 * p = r1 at v3 k3
          generalize q * p = r2 at v1 k2 k4
          have q5 : ((t : Int) == 0) = false := by simp; omega
          have q6 : decide ((1 : Int) ≤ (q : Int)) = true := decide_eq_true (by omega)
          have q7 : decide ((t : Int) ≤ (r2 : Int)) = true := decide_eq_true (by omega)
          have q8 : decide ((r1 : Int) < (t : Int)) = true := decide_eq_true (by omega)
          have q9 : t ≤ r2 := k2
          have q10 : r1 < t := k3
          have q11 : 1 ≤ q := k1
          clear hwt k1 k2 k3 k4 ht0
          go_wp2_with fail
          with_reducible refine (HWT.out _).mono ?_
          rintro e w11 ⟨rfl, rfl⟩
          go_wp2_with fail
          with_reducible refine (HWH.out _ (Below.refl _ _).drew).mono ?_
          rintro e w12 ⟨rfl, hb⟩
          have HB12 := Lib.hid (HBZ.out.trans (((Below.refl wz.heap.size wz).drew.trans hb).mono HBZ.out.size))
          go_wp2_with fail
          with_reducible refine (HAW.out _ (HT.out.below HB12.out)).mono ?_
          rintro e w13 ⟨rfl, hb⟩
          go_wp2_with fail
          go_ret
          exact ⟨rfl, HB12.out.trans (hb.mono HB12.out.size)⟩
      · have q1 : decide ((0 : Int) < (m : Int)) = true := decide_eq_true (by omega)
        have q2 : ((m : Int) == 0) = false := by simp; omega
        have q1n : decide (0 < m) = true := decide_eq_true (by omega)
        cases ob with
        | none => exact absurd HMC.out (by have := HNO.out rfl; omega)
        | some a =>
        obtain ⟨hl1, hl2, ⟨cur, hl5⟩, hl3, hl4⟩ := HLOW.out a rfl
        obtain ⟨g, o, sp⟩ := a
        simp only at hl1 hl2 hl3 hl4 hl5
        subst hl3
        subst hl4
        obtain ⟨i, hi, him⟩ : ∃ i : Nat, (c : Int) % (m : Int) = (i : Int) ∧ i < m := ⟨c % m, (Int.natCast_emod c m).symm, Nat.mod_lt _ (by omega)⟩
        have hyl := Nat.mod_lt (n0 + i) (show 0 < 26 by omega)
        obtain ⟨x, hx, hne, hbits⟩ := xor_one ⟨(n0 + i) % 26, hyl⟩
        simp only at hne hbits
        have hcell := HBY2.out i (by rw [HBL.out]; exact him)
        rw [List.getD_eq_getElem?_getD, HW3.out i him] at hcell
        obtain ⟨a, ha, hcell⟩ := hcell
        have HWN := Lib.hid (HW2.out i x him hx hne)
        generalize 97 + (n0 + i) % 26 = y at hcell hbits hne
        have hcell : w'.cell? (a.add i) = some (.int .u8 (y : Int)) := hcell
        obtain rfl := Option.some.inj ha
        rw [add_zero] at hcell
        have u8 : IntKind.i64.wrap (i : Int) = (i : Int) := IntWalk.i64_in _ (by omega)
        have u9 : IntKind.u8.wrap (x : Int) = (x : Int) := IntWalk.u8_in _ (by omega)
        have q3 : (i : Int) < (m : Int) := by omega
        have q4 : (0 : Int) ≤ (i : Int) := by omega
        have HXX := Lib.hid (And.intro hx hne)
        have HIM := Lib.hid him
        have HGG := Lib.hid (And.intro hl1 hl2)
        have hfz : w'.frozen? ⟨g, i, none⟩ = false := frozen_of_row _ _ _ _ _ hl5
        clear hx hne him ha hyl hl1 hl2 hl5
        go_upto_region 12 with fail
        go_region
        have HBZY := Lib.hid (show BytesN ((w'.setCell ⟨g, i, none⟩ (.int .u8 (x : Int))).drew) (some ⟨g, 0, none⟩) (B.set i x) from BytesN.store (W := w'.drew) (show BytesN w'.drew (some ⟨g, 0, none⟩) B from HBY2.out) i x (by rw [HBL.out]; exact HIM.out))
        have HNZ := Lib.hid (show NRow ((w'.setCell ⟨g, i, none⟩ (.int .u8 (x : Int))).drew) qn n0 n1 n2 from (Below.heap_setCell w'.drew ⟨g, i, none⟩ (.int .u8 (x : Int)) qn (Nat.ne_of_lt HGG.out.2)).trans HNX.out)
        have HBZ := Lib.hid (show Below w.heap.size w ((w'.setCell ⟨g, i, none⟩ (.int .u8 (x : Int))).drew) from HBALL.out.drew.setCell (show w.heap.size ≤ (⟨g, i, none⟩ : Addr).block from HGG.out.1) (.int .u8 (x : Int)))
        have HBLZ := Lib.hid (show (B.set i x).length = m from by rw [List.length_set]; exact HBL.out)
        have HBAZ := Lib.hid (show ∀ z ∈ B.set i x, z < 256 from fun z hz => (List.mem_or_eq_of_mem_set hz).elim (HBA.out z) (fun e => e ▸ HXX.out.1))
        have HWZ := Lib.hid (HWN.out)
        generalize (w'.setCell ⟨g, i, none⟩ (.int .u8 (x : Int))).drew = wz at HBZY HNZ HBZ ⊢
        generalize B.set i x = Bz at HBZY HBLZ HBAZ HWZ
        have HWH := Lib.hid (fun W (hW : Below wz.heap.size wz W) => whole_any (some ⟨g, 0, none⟩) m cap Bz n0 HBLZ.out HBAZ.out W (HBZY.out.below hW))
        rw [HWZ.out] at HWH
        have y2 := HNZ.out.c2
        go_upto_region 13 with fail
        go_region
        clear y2
        by_cases ht0 : t = 0
        · subst ht0
          have hwt := wait_no (t := 0) (p := (p : Int)) (.inl (by omega))
          have HWT := Lib.hid (fun W => wait_any 0 (p : Int) (by decide) hp1 W)
          rw [hwt] at HWT
          clear hwt
          go_wp2_with fail
          with_reducible refine (HWT.out _).mono ?_
          rintro e w11 ⟨rfl, rfl⟩
          go_wp2_with fail
          with_reducible refine (HWH.out _ (Below.refl _ _).drew).mono ?_
          rintro e w12 ⟨rfl, hb⟩
          have HB12 := Lib.hid (HBZ.out.trans (((Below.refl wz.heap.size wz).drew.trans hb).mono HBZ.out.size))
          go_wp2_with fail
          with_reducible refine (HAW.out _ (HT.out.below HB12.out)).mono ?_
          rintro e w13 ⟨rfl, hb⟩
          go_wp2_with fail
          go_ret
          exact ⟨rfl, HB12.out.trans (hb.mono HB12.out.size)⟩
        · have hwt := wait_nat t p (by omega) hp2
          have HWT := Lib.hid (fun W => wait_any (t : Int) (p : Int) ht1 hp1 W)
          rw [hwt] at HWT
          obtain ⟨k1, k2, k3⟩ := wait_law t p (by omega) hp2
          generalize (t - 1) / p + 1 = q at HWT k1 k2 k3
          have k4 : q * p < 4295032832 := by
            have := HPL.out
            have : (q - 1) * p + p = q * p := by rw [← Nat.succ_mul]; congr 1; omega
            omega
          have v1 : IntKind.i64.wrap ((q : Int) * (p : Int)) = ((q * p : Nat) : Int) := by rw [IntWalk.i64_in _ (by rw [← Int.natCast_mul]; omega), Int.natCast_mul]
          have v2 : IntKind.i64.wrap ((q : Int) - 1) = ((q - 1 : Nat) : Int) := by
            have : q ≤ q * p := Nat.le_mul_of_pos_right q hp2
            rw [IntWalk.i64_in _ (by omega)]; omega
          generalize q - 1 = q1 at v2 k3
          have v3 : IntKind.i64.wrap ((q1 : Int) * (p : Int)) = ((q1 * p : Nat) : Int) := by rw [IntWalk.i64_in _ (by rw [← Int.natCast_mul]; omega), Int.natCast_mul]
          generalize q1 * p = r1 at v3 k3
          generalize q * p = r2 at v1 k2 k4
          have q5 : ((t : Int) == 0) = false := by simp; omega
          have q6 : decide ((1 : Int) ≤ (q : Int)) = true := decide_eq_true (by omega)
          have q7 : decide ((t : Int) ≤ (r2 : Int)) = true := decide_eq_true (by omega)
          have q8 : decide ((r1 : Int) < (t : Int)) = true := decide_eq_true (by omega)
          have q9 : t ≤ r2 := k2
          have q10 : r1 < t := k3
          have q11 : 1 ≤ q := k1
          clear hwt k1 k2 k3 k4 ht0
          go_wp2_with fail
          with_reducible refine (HWT.out _).mono ?_
          rintro e w11 ⟨rfl, rfl⟩
          go_wp2_with fail
          with_reducible refine (HWH.out _ (Below.refl _ _).drew).mono ?_
          rintro e w12 ⟨rfl, hb⟩
          have HB12 := Lib.hid (HBZ.out.trans (((Below.refl wz.heap.size wz).drew.trans hb).mono HBZ.out.size))
          go_wp2_with fail
          with_reducible refine (HAW.out _ (HT.out.below HB12.out)).mono ?_
          rintro e w13 ⟨rfl, hb⟩
          go_wp2_with fail
          go_ret
          exact ⟨rfl, HB12.out.trans (hb.mono HB12.out.size)⟩
  · have he8 := respE_8 he
    rw [he8] at HP HC
    have hL : FL s l r = [] := if_neg he
    rw [hL] at HP
    clear he he8 hL
    go_enter Tryd.func5, Tryd.ntmps5
    go_upto_region 2 with fail
    generalize ((w.alloc (.cells #[.int .i64 s, .int .i64 l, .int .i64 r] 23)).alloc (.cells #[.int .u16 (n0 : Int), .int .u16 (n1 : Int), .int .u16 (n2 : Int)] 46)).alloc (.cells #[.int .i64 s, .int .i64 l, .int .i64 r] 28) = w1 at HN0 HX0 HB0 ⊢
    have x0 := HX0.out.c0
    have x1 := HX0.out.c1
    have x2 := HX0.out.c2
    go_wp2_with fail
    refine (HP.out _ (HT.out.below HB0.out)).mono ?_
    rintro e w2 ⟨oa, ca, rfl, hfa, _, hb⟩
    have HX2 := Lib.hid (HX0.out.step hb)
    have HB2 := Lib.hid (HB0.out.trans (hb.mono HB0.out.size))
    clear hb hfa x0 x1 x2 HX0 HB0
    have x0 := HX2.out.c0
    have x1 := HX2.out.c1
    have x2 := HX2.out.c2
    go_wp2_with fail
    refine (HC.out _).mono ?_
    rintro e w3 ⟨rfl, hb⟩
    have HB3 := Lib.hid (HB2.out.trans (hb.mono HB2.out.size))
    clear hb HX2 HB2 x0 x1 x2
    go_wp2_with fail
    refine (HAW.out _ (HT.out.below HB3.out)).mono ?_
    rintro e w4 ⟨rfl, hb⟩
    go_wp2_with fail
    go_ret
    exact ⟨rfl, HB3.out.trans (hb.mono HB3.out.size)⟩
#print axioms respBack_any
end Go.Proofs.YtfgicmekkjhlkaaDoor
