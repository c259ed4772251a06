/- Places and finds, the program's and the document's: the walk of DyntabFinds. -/
import Derived.Test.YtmnaljnkgaebkaaRefAf
import Derived.Test.YtmnaljnkgaebkaaFldY
import Derived.Laws.StructEq
namespace Go.Proofs.Ytmnaljnkgaebkaa
open Go.RowKit
set_option linter.unusedVariables false
set_option linter.unusedSimpArgs false

theorem light_all {L : List Fld} (h : light L = true) : L.length ≤ 30 ∧ ∀ f ∈ L, lightF f = true := by
  unfold light at h
  rw [Bool.and_eq_true] at h
  exact ⟨of_decide_eq_true h.1, fun f hf => List.all_eq_true.1 h.2 f hf⟩
theorem FRow.set3 {W : World} {q : Nat} {f : Fld} (h : FRow W q f) (a b : ByteArray) (c : Bool) : FRow (((W.setCell ⟨q, 0, none⟩ (.string a)).setCell ⟨q, 1, none⟩ (.string b)).setCell ⟨q, 2, none⟩ (.bool c)) q ⟨a, b, c⟩ :=
  heap_setCell_same _ q 2 _ _ _ (heap_setCell_same _ q 1 _ _ _ (heap_setCell_same W q 0 _ _ _ h))
/-- What stays in memory while DyntabFinds asks. -/
structure FinRel (w : World) (m : Int) (oa : Option Addr) (n cap : Nat) (L : List Fld) (m2 : Int) (ob : Option Addr) (n2 cap2 : Nat) (R : List Fld) (W : World) : Prop where
  r3 : W.heap[w.heap.size]? = some (.cells #[.int .i64 m, .slice oa n cap] 46 (0, 0))
  r4 : W.heap[w.heap.size + 1]? = some (.cells #[.int .i64 m2, .slice ob n2 cap2] 46 (0, 0))
  r7 : TRow W (w.heap.size + 2) m (.slice oa n cap)
  fl : FieldsN W oa L
  fr : FieldsN W ob R
  below : Below w.heap.size w W
section
variable {w : World} {m : Int} {oa : Option Addr} {n cap : Nat} {L : List Fld} {m2 : Int} {ob : Option Addr} {n2 cap2 : Nat} {R : List Fld} {W W' : World}
theorem FinRel.a0 (h : FinRel w m oa n cap L m2 ob n2 cap2 R W) : W.cell? ⟨w.heap.size, 0, none⟩ = some (.int .i64 m) := cell_of_row _ _ _ _ _ _ h.r3
theorem FinRel.a1 (h : FinRel w m oa n cap L m2 ob n2 cap2 R W) : W.cell? ⟨w.heap.size, 1, none⟩ = some (.slice oa n cap) := cell_of_row _ _ _ _ _ _ h.r3
theorem FinRel.b0 (h : FinRel w m oa n cap L m2 ob n2 cap2 R W) : W.cell? ⟨w.heap.size + 1, 0, none⟩ = some (.int .i64 m2) := cell_of_row _ _ _ _ _ _ h.r4
theorem FinRel.b1 (h : FinRel w m oa n cap L m2 ob n2 cap2 R W) : W.cell? ⟨w.heap.size + 1, 1, none⟩ = some (.slice ob n2 cap2) := cell_of_row _ _ _ _ _ _ h.r4
theorem FinRel.step (h : FinRel w m oa n cap L m2 ob n2 cap2 R W) (hb : Below W.heap.size W W') : FinRel w m oa n cap L m2 ob n2 cap2 R W' :=
  ⟨(hb.block _ (World.block_lt_of_cell? W ⟨w.heap.size, 0, none⟩ h.a0)).trans h.r3, (hb.block _ (World.block_lt_of_cell? W ⟨w.heap.size + 1, 0, none⟩ h.b0)).trans h.r4, h.r7.step hb, h.fl.below hb, h.fr.below hb, h.below.trans (hb.mono h.below.size)⟩
theorem FinRel.drew (h : FinRel w m oa n cap L m2 ob n2 cap2 R W) : FinRel w m oa n cap L m2 ob n2 cap2 R W.drew := ⟨h.r3, h.r4, h.r7, h.fl, h.fr, h.below.drew⟩
end
theorem FinRel.set {w : World} {m : Int} {oa : Option Addr} {n cap : Nat} {L : List Fld} {m2 : Int} {ob : Option Addr} {n2 cap2 : Nat} {R : List Fld} {W : World} (h : FinRel w m oa n cap L m2 ob n2 cap2 R W) (hF : FieldsN w oa L) (hF2 : FieldsN w ob R) (q j : Nat) (hq : w.heap.size + 2 < q) (x : Value) : FinRel w m oa n cap L m2 ob n2 cap2 R (W.setCell ⟨q, j, none⟩ x) :=
  have hb : Below w.heap.size w (W.setCell ⟨q, j, none⟩ x) := h.below.setCell (show w.heap.size ≤ (⟨q, j, none⟩ : Addr).block from by show w.heap.size ≤ q; omega) x
  ⟨(Below.heap_setCell _ _ _ _ (fun e => by simp only at e; omega)).trans h.r3, (Below.heap_setCell _ _ _ _ (fun e => by simp only at e; omega)).trans h.r4, h.r7.other q j (by omega) x, hF.below hb, hF2.below hb, hb⟩
/-- .. and the two fields that were got. -/
structure FinRel2 (w : World) (m : Int) (oa : Option Addr) (n cap : Nat) (L : List Fld) (m2 : Int) (ob : Option Addr) (n2 cap2 : Nat) (R : List Fld) (q9 q11 : Nat) (g : Fld) (W : World) : Prop where
  rel : FinRel w m oa n cap L m2 ob n2 cap2 R W
  r9 : FRow W q9 g
  r11 : FRow W q11 g
theorem FinRel2.step {w : World} {m : Int} {oa : Option Addr} {n cap : Nat} {L : List Fld} {m2 : Int} {ob : Option Addr} {n2 cap2 : Nat} {R : List Fld} {q9 q11 : Nat} {g : Fld} {W W' : World} (hb : Below W.heap.size W W') (h : FinRel2 w m oa n cap L m2 ob n2 cap2 R q9 q11 g W) : FinRel2 w m oa n cap L m2 ob n2 cap2 R q9 q11 g W' :=
  ⟨h.rel.step hb, h.r9.step hb, h.r11.step hb⟩
theorem FinRel2.drew {w : World} {m : Int} {oa : Option Addr} {n cap : Nat} {L : List Fld} {m2 : Int} {ob : Option Addr} {n2 cap2 : Nat} {R : List Fld} {q9 q11 : Nat} {g : Fld} {W : World} (h : FinRel2 w m oa n cap L m2 ob n2 cap2 R q9 q11 g W) : FinRel2 w m oa n cap L m2 ob n2 cap2 R q9 q11 g W.drew :=
  ⟨h.rel.drew, h.r9, h.r11⟩

set_option maxRecDepth 100000 in
set_option maxHeartbeats 8000000 in
theorem dyntabFinds_any (m : Int) (oa : Option Addr) (n cap : Nat) (L : List Fld) (hn : L.length = n) (m2 : Int) (ob : Option Addr) (n2 cap2 : Nat) (R : List Fld) (hn2 : R.length = n2) (i : Int) (w : World) (hf : FieldsN w oa L) (hf2 : FieldsN w ob R) (hi : (Lit.int .i64 i).wf = true) :
    Calls Try.prog 7 #[.agg #[.int .i64 m, .slice oa n cap], .agg #[.int .i64 m2, .slice ob n2 cap2], .int .i64 i] w fun e w' => e = .returned (.bool true) ∧ Below w.heap.size w w' := by
  have HN := Lib.hid hn
  have HN2 := Lib.hid hn2
  have HF := Lib.hid hf
  have HF2 := Lib.hid hf2
  have HLI := Lib.hid (fun W hW => light_any oa n cap L hn W hW)
  have HLR := Lib.hid (fun W hW => light_any ob n2 cap2 R hn2 W hW)
  have HI := Lib.hid hi
  clear hn hf hn2 hf2 hi
  have HB0 := Lib.hid (((Below.refl w.heap.size w).alloc (Nat.le_refl _) (.cells #[.int .i64 m, .slice oa n cap] 46)).alloc (by simp) (.cells #[.int .i64 m2, .slice ob n2 cap2] 46))
  have HT0 := Lib.hid (two0 w (.cells #[.int .i64 m, .slice oa n cap] 46) (.cells #[.int .i64 m2, .slice ob n2 cap2] 46))
  have HR0 := Lib.hid (two1 w (.cells #[.int .i64 m, .slice oa n cap] 46) (.cells #[.int .i64 m2, .slice ob n2 cap2] 46))
  have HS0 := Lib.hid (show ((w.alloc (.cells #[.int .i64 m, .slice oa n cap] 46)).alloc (.cells #[.int .i64 m2, .slice ob n2 cap2] 46)).heap.size = w.heap.size + 2 from by simp)
  go_enter Try.func7, Try.ntmps7
  go_upto_region 1 with fail
  generalize (w.alloc (.cells #[.int .i64 m, .slice oa n cap] 46)).alloc (.cells #[.int .i64 m2, .slice ob n2 cap2] 46) = w1 at HB0 HT0 HR0 HS0 ⊢
  have a0 : w1.cell? ⟨w.heap.size, 0, none⟩ = some (.int .i64 m) := cell_of_row _ _ _ _ _ _ HT0.out
  have a1 : w1.cell? ⟨w.heap.size, 1, none⟩ = some (.slice oa n cap) := cell_of_row _ _ _ _ _ _ HT0.out
  have b0 : w1.cell? ⟨w.heap.size + 1, 0, none⟩ = some (.int .i64 m2) := cell_of_row _ _ _ _ _ _ HR0.out
  have b1 : w1.cell? ⟨w.heap.size + 1, 1, none⟩ = some (.slice ob n2 cap2) := cell_of_row _ _ _ _ _ _ HR0.out
  go_wp2_with fail
  refine (HLI.out _ (HF.out.below HB0.out)).mono ?_
  rintro e w2 ⟨rfl, hw⟩
  subst hw
  cases hli : light L
  · go_wp2_with fail
    refine (awake04_any _).mono ?_
    rintro e w3 ⟨rfl, hb⟩
    have HB1 := Lib.hid (HB0.out.trans (hb.mono HB0.out.size))
    clear hb
    go_wp2_with fail
    go_ret
    exact ⟨rfl, HB1.out⟩
  · have HAL := Lib.hid (light_all hli)
    clear hli
    go_wp2_with fail
    refine (HLR.out _ (HF2.out.below HB0.out)).mono ?_
    rintro e w3 ⟨rfl, hw⟩
    subst hw
    cases hlr : light R
    · go_wp2_with fail
      refine (awake04_any _).mono ?_
      rintro e w4 ⟨rfl, hb⟩
      have HB1 := Lib.hid (HB0.out.trans (hb.mono HB0.out.size))
      clear hb
      go_wp2_with fail
      go_ret
      exact ⟨rfl, HB1.out⟩
    · have HAR := Lib.hid (light_all hlr)
      clear hlr HLI HLR
      go_upto_region 4 with fail
      have HK := Lib.hid (show FinRel w m oa n cap L m2 ob n2 cap2 R (w3.alloc (.cells #[.int .i64 m, .slice oa n cap] 48)) from
        ⟨(((Below.refl _ _).alloc (Nat.le_refl _) _).block _ (World.block_lt_of_cell? w3 ⟨w.heap.size, 0, none⟩ a0)).trans HT0.out, (((Below.refl _ _).alloc (Nat.le_refl _) _).block _ (World.block_lt_of_cell? w3 ⟨w.heap.size + 1, 0, none⟩ b0)).trans HR0.out,
          HS0.out ▸ TRow.new w3 m (.slice oa n cap), HF.out.below (HB0.out.alloc HB0.out.size _), HF2.out.below (HB0.out.alloc HB0.out.size _), HB0.out.alloc HB0.out.size _⟩)
      rw [HS0.out]
      generalize w3.alloc (.cells #[.int .i64 m, .slice oa n cap] 48) = w4 at HK ⊢
      clear a0 a1 b0 b1 HT0 HR0 HB0 HS0
      have HX8 := Lib.hid (show FRow (w4.alloc (.cells #[.string ⟨#[58, 109, 101, 116, 104, 111, 100]⟩, .string ⟨#[80, 85, 84]⟩, .bool false] 50)) w4.heap.size ⟨⟨#[58, 109, 101, 116, 104, 111, 100]⟩, ⟨#[80, 85, 84]⟩, false⟩ from heap_alloc_new w4 _)
      have HK5 := Lib.hid (HK.out.step ((Below.refl _ _).alloc (Nat.le_refl _) (.cells #[.string ⟨#[58, 109, 101, 116, 104, 111, 100]⟩, .string ⟨#[80, 85, 84]⟩, .bool false] 50)))
      have HQ8 := Lib.hid (show w.heap.size + 2 < w4.heap.size from HK.out.r7.lt)
      go_upto_region 5 with fail
      generalize w4.heap.size = q8 at HX8 HQ8 ⊢
      generalize w4.alloc (.cells #[.string ⟨#[58, 109, 101, 116, 104, 111, 100]⟩, .string ⟨#[80, 85, 84]⟩, .bool false] 50) = w5 at HX8 HK5 ⊢
      clear HK
      have b1 := HK5.out.b1
      have x0 := HX8.out.c0
      have x1 := HX8.out.c1
      have x2 := HX8.out.c2
      have z0 := HX8.out.z 0
      have z1 := HX8.out.z 1
      have z2 := HX8.out.z 2
      simp only at x0 x1 x2
      cases R with
      | nil =>
        have hpos : decide ((0 : Int) < (n2 : Int)) = false := decide_eq_false (by have := HN2.out; simp at this; omega)
        have hpos2 : ¬ (0 < n2) := by have := HN2.out; simp at this; omega
        go_upto_region 7 with fail
        have HK6 := HK5
        have HX6 := HX8
        clear b1 x0 x1 x2 z0 z1 z2
        have hA := Lib.hid (show ∀ W, FieldsN W oa L → Calls Try.prog 27 #[.agg #[.int .i64 m, .slice oa n cap], .int .i64 i] W fun e w' => e = .returned (.tuple #[.agg #[.string (atF L i).1.name, .string (atF L i).1.value, .bool (atF L i).1.never], .bool (atF L i).2]) ∧ Below W.heap.size W w' from fun W hW => dAt_any m oa n cap L HN.out i HI.out W hW)
        have hA2 := Lib.hid (show ∀ W, FieldsN W oa L → Calls Try.prog 28 #[.agg #[.int .i64 m, .slice oa n cap], .int .i64 i] W fun e w' => e = .returned (.tuple #[.agg #[.string (atF L i).1.name, .string (atF L i).1.value, .bool (atF L i).1.never], .bool (atF L i).2]) ∧ Below W.heap.size W w' from fun W hW => refAt4_any m oa n cap L HN.out i HI.out W hW)
        generalize atF L i = gg at hA hA2
        obtain ⟨⟨ga, gb, gc⟩, gx⟩ := gg
        simp only at hA hA2
        have t0 := HK6.out.r7.c0
        have t1 := HK6.out.r7.c1
        go_wp2_with fail
        refine (hA.out _ HK6.out.fl).mono ?_
        rintro e w7 ⟨rfl, hb0⟩
        have hb := hb0.alloc hb0.size (.cells #[.string ga, .string gb, .bool gc] 50)
        have HK7 := Lib.hid (HK6.out.step hb)
        have HX7 := Lib.hid (HX6.out.step hb)
        have HG7 := Lib.hid (show FRow (w7.alloc (.cells #[.string ga, .string gb, .bool gc] 50)) w7.heap.size ⟨ga, gb, gc⟩ from heap_alloc_new w7 _)
        clear hb hb0 t0 t1 HK6 HX6
        go_upto_region 8 with fail
        generalize w7.heap.size = q9 at HG7 ⊢
        generalize w7.alloc (.cells #[.string ga, .string gb, .bool gc] 50) = w8 at HK7 HX7 HG7 ⊢
        have a0 := HK7.out.a0
        have a1 := HK7.out.a1
        go_wp2_with fail
        refine (hA2.out _ HK7.out.fl).mono ?_
        rintro e w9 ⟨rfl, hb0⟩
        have hb := hb0.alloc hb0.size (.cells #[.string ga, .string gb, .bool gc] 50)
        have HK9 := Lib.hid (HK7.out.step hb)
        have HX9 := Lib.hid (HX7.out.step hb)
        have HG9 := Lib.hid (HG7.out.step hb)
        have HJ9 := Lib.hid (show FRow (w9.alloc (.cells #[.string ga, .string gb, .bool gc] 50)) w9.heap.size ⟨ga, gb, gc⟩ from heap_alloc_new w9 _)
        clear hb hb0 a0 a1 HK7 HX7 HG7
        go_upto_region 9 with fail
        generalize w9.heap.size = q11 at HJ9 ⊢
        generalize w9.alloc (.cells #[.string ga, .string gb, .bool gc] 50) = w10 at HK9 HX9 HG9 HJ9 ⊢
        have t0 := HK9.out.r7.c0
        have t1 := HK9.out.r7.c1
        have x0 := HX9.out.c0
        have x1 := HX9.out.c1
        simp only at x0 x1
        go_wp2_with fail
        refine (dFind_any m oa n cap L HN.out (by have := HAL.out.1; have := HN.out; omega) _ _ _ HK9.out.fl).mono ?_
        rintro e w11 ⟨p, x, hd, rfl, hb⟩
        have HD := Lib.hid hd
        have HK11 := Lib.hid (HK9.out.step hb)
        have HX11 := Lib.hid (HX9.out.step hb)
        have HG11 := Lib.hid (HG9.out.step hb)
        have HJ11 := Lib.hid (HJ9.out.step hb)
        clear hb hd t0 t1 x0 x1 HK9 HX9 HG9 HJ9
        have a0 := HK11.out.a0
        have a1 := HK11.out.a1
        have x0 := HX11.out.c0
        have x1 := HX11.out.c1
        simp only at x0 x1
        go_wp2_with fail
        refine (refFind_any m oa n cap L HN.out (by have := HAL.out.1; have := HN.out; omega) _ _ _ HK11.out.fl).mono ?_
        rintro e w12 ⟨p', x', hd, rfl, hb⟩
        obtain ⟨rfl, rfl⟩ := HD.out.uniq hd
        have HQ := Lib.hid (show FinRel2 w m oa n cap L m2 _ n2 cap2 _ q9 q11 ⟨ga, gb, gc⟩ w12 from ⟨HK11.out.step hb, HG11.out.step hb, HJ11.out.step hb⟩)
        clear hb hd a0 a1 x0 x1 HK11 HX11 HG11 HJ11 hA hA2 HD
        have hn30 : n ≤ 100 := by have := HAL.out.1; have := HN.out; omega
        have hn230 : n2 ≤ 100 := by have := HAR.out.1; have := HN2.out; omega
        have S1 := Lib.hid (fun W hW => size_tab m oa n cap L HN.out HAL.out.2 hn30 W hW)
        have S2 := Lib.hid (fun W hW => refSize_tab m oa n cap L HN.out HAL.out.2 hn30 W hW)
        have S3 := Lib.hid (fun W hW => check_any m oa n cap L HN.out HAL.out.2 hn30 W hW)
        have S4 := Lib.hid (fun W hW => refCheck_any m oa n cap L HN.out HAL.out.2 hn30 W hW)
        have S5 := Lib.hid (fun W hW (hW2 : FieldsN W ob []) => same_any m m2 oa ob n n2 cap cap2 L [] HN.out HN2.out (by omega) (by omega) W hW hW2)
        have S6 := Lib.hid (fun W hW (hW2 : FieldsN W ob []) => refSame_any m m2 oa ob n n2 cap cap2 L [] HN.out HN2.out (by omega) (by omega) W hW hW2)
        generalize sumF L = sm at S1 S2
        generalize chkN m L = ck at S3 S4
        generalize (decide (m = m2) && sameL L []) = sb at S5 S6
        go_upto_region 11 with fail
        refine class_region (C := FinRel2 w m oa n cap L m2 ob n2 cap2 [] q9 q11 ⟨ga, gb, gc⟩) (by kernel_rfl) (by kernel_rfl) HQ.out.drew ?_
        repeat
          with_reducible refine qrest_step ?_
          intro K hK'
          go_simp
          first
            | (with_reducible refine hK' _ ?_)
            | (with_reducible refine QOp.mk ?_
               apply Exists.intro
               with_reducible refine ⟨?_, hK' _ ?_⟩
               · intro W hW
                 have c30 := hW.rel.a0
                 have c31 := hW.rel.a1
                 have c40 := hW.rel.b0
                 have c41 := hW.rel.b1
                 have c70 := hW.rel.r7.c0
                 have c71 := hW.rel.r7.c1
                 have c90 := hW.r9.c0
                 have c91 := hW.r9.c1
                 have c92 := hW.r9.c2
                 have d90 := hW.r11.c0
                 have d91 := hW.r11.c1
                 have d92 := hW.r11.c2
                 simp only at c90 c91 c92 d90 d91 d92
                 unfold QAt
                 go_simp
                 first
                   | (with_reducible rfl)
                   | (go_at_call 31; refine (S1.out _ hW.rel.fl).mono ?_; rintro e w' ⟨rfl, hb⟩; exact ⟨rfl, FinRel2.step hb hW⟩)
                   | (go_at_call 32; refine (S2.out _ hW.rel.fl).mono ?_; rintro e w' ⟨rfl, hb⟩; exact ⟨rfl, FinRel2.step hb hW⟩)
                   | (go_at_call 33; refine (S3.out _ hW.rel.fl).mono ?_; rintro e w' ⟨rfl, hb⟩; exact ⟨rfl, FinRel2.step hb hW⟩)
                   | (go_at_call 34; refine (S4.out _ hW.rel.fl).mono ?_; rintro e w' ⟨rfl, hb⟩; exact ⟨rfl, FinRel2.step hb hW⟩)
                   | (go_at_call 35; refine (S5.out _ hW.rel.fl hW.rel.fr).mono ?_; rintro e w' ⟨rfl, hb⟩; exact ⟨rfl, FinRel2.step hb hW⟩)
                   | (go_at_call 36; refine (S6.out _ hW.rel.fl hW.rel.fr).mono ?_; rintro e w' ⟨rfl, hb⟩; exact ⟨rfl, FinRel2.step hb hW⟩)
                   | (go_at_call 26; refine (awake04_any _).mono ?_; rintro e w' ⟨rfl, hb⟩; exact ⟨rfl, FinRel2.step hb hW⟩))
          clear hK' K
        with_reducible refine qrest_nil ?_
        intro w' hw'
        go_wp2
        go_ret
        exact ⟨rfl, hw'.rel.below⟩
      | cons f R' =>
        obtain ⟨b, o, rfl, f0, f1, f2⟩ := HK5.out.fr 0 f rfl
        obtain ⟨fa, fb, fc⟩ := f
        simp only [Nat.zero_mul, Nat.add_zero] at f0 f1 f2
        have hpos : decide ((0 : Int) < (n2 : Int)) = true := decide_eq_true (by have := HN2.out; simp at this; omega)
        have hpos2 : (0 : Int) < (n2 : Int) := by have := HN2.out; simp at this; omega
        go_upto_region 7 with fail
        have HK6 := Lib.hid (((HK5.out.set HF.out HF2.out q8 0 HQ8.out (.string fa)).set HF.out HF2.out q8 1 HQ8.out (.string fb)).set HF.out HF2.out q8 2 HQ8.out (.bool fc))
        have HX6 := Lib.hid (HX8.out.set3 fa fb fc)
        generalize ((w5.setCell ⟨q8, 0, none⟩ (.string fa)).setCell ⟨q8, 1, none⟩ (.string fb)).setCell ⟨q8, 2, none⟩ (.bool fc) = w6 at HK6 HX6 ⊢
        clear f0 f1 f2 HK5 HX8
        clear b1 x0 x1 x2 z0 z1 z2
        have hA := Lib.hid (show ∀ W, FieldsN W oa L → Calls Try.prog 27 #[.agg #[.int .i64 m, .slice oa n cap], .int .i64 i] W fun e w' => e = .returned (.tuple #[.agg #[.string (atF L i).1.name, .string (atF L i).1.value, .bool (atF L i).1.never], .bool (atF L i).2]) ∧ Below W.heap.size W w' from fun W hW => dAt_any m oa n cap L HN.out i HI.out W hW)
        have hA2 := Lib.hid (show ∀ W, FieldsN W oa L → Calls Try.prog 28 #[.agg #[.int .i64 m, .slice oa n cap], .int .i64 i] W fun e w' => e = .returned (.tuple #[.agg #[.string (atF L i).1.name, .string (atF L i).1.value, .bool (atF L i).1.never], .bool (atF L i).2]) ∧ Below W.heap.size W w' from fun W hW => refAt4_any m oa n cap L HN.out i HI.out W hW)
        generalize atF L i = gg at hA hA2
        obtain ⟨⟨ga, gb, gc⟩, gx⟩ := gg
        simp only at hA hA2
        have t0 := HK6.out.r7.c0
        have t1 := HK6.out.r7.c1
        go_wp2_with fail
        refine (hA.out _ HK6.out.fl).mono ?_
        rintro e w7 ⟨rfl, hb0⟩
        have hb := hb0.alloc hb0.size (.cells #[.string ga, .string gb, .bool gc] 50)
        have HK7 := Lib.hid (HK6.out.step hb)
        have HX7 := Lib.hid (HX6.out.step hb)
        have HG7 := Lib.hid (show FRow (w7.alloc (.cells #[.string ga, .string gb, .bool gc] 50)) w7.heap.size ⟨ga, gb, gc⟩ from heap_alloc_new w7 _)
        clear hb hb0 t0 t1 HK6 HX6
        go_upto_region 8 with fail
        generalize w7.heap.size = q9 at HG7 ⊢
        generalize w7.alloc (.cells #[.string ga, .string gb, .bool gc] 50) = w8 at HK7 HX7 HG7 ⊢
        have a0 := HK7.out.a0
        have a1 := HK7.out.a1
        go_wp2_with fail
        refine (hA2.out _ HK7.out.fl).mono ?_
        rintro e w9 ⟨rfl, hb0⟩
        have hb := hb0.alloc hb0.size (.cells #[.string ga, .string gb, .bool gc] 50)
        have HK9 := Lib.hid (HK7.out.step hb)
        have HX9 := Lib.hid (HX7.out.step hb)
        have HG9 := Lib.hid (HG7.out.step hb)
        have HJ9 := Lib.hid (show FRow (w9.alloc (.cells #[.string ga, .string gb, .bool gc] 50)) w9.heap.size ⟨ga, gb, gc⟩ from heap_alloc_new w9 _)
        clear hb hb0 a0 a1 HK7 HX7 HG7
        go_upto_region 9 with fail
        generalize w9.heap.size = q11 at HJ9 ⊢
        generalize w9.alloc (.cells #[.string ga, .string gb, .bool gc] 50) = w10 at HK9 HX9 HG9 HJ9 ⊢
        have t0 := HK9.out.r7.c0
        have t1 := HK9.out.r7.c1
        have x0 := HX9.out.c0
        have x1 := HX9.out.c1
        simp only at x0 x1
        go_wp2_with fail
        refine (dFind_any m oa n cap L HN.out (by have := HAL.out.1; have := HN.out; omega) _ _ _ HK9.out.fl).mono ?_
        rintro e w11 ⟨p, x, hd, rfl, hb⟩
        have HD := Lib.hid hd
        have HK11 := Lib.hid (HK9.out.step hb)
        have HX11 := Lib.hid (HX9.out.step hb)
        have HG11 := Lib.hid (HG9.out.step hb)
        have HJ11 := Lib.hid (HJ9.out.step hb)
        clear hb hd t0 t1 x0 x1 HK9 HX9 HG9 HJ9
        have a0 := HK11.out.a0
        have a1 := HK11.out.a1
        have x0 := HX11.out.c0
        have x1 := HX11.out.c1
        simp only at x0 x1
        go_wp2_with fail
        refine (refFind_any m oa n cap L HN.out (by have := HAL.out.1; have := HN.out; omega) _ _ _ HK11.out.fl).mono ?_
        rintro e w12 ⟨p', x', hd, rfl, hb⟩
        obtain ⟨rfl, rfl⟩ := HD.out.uniq hd
        have HQ := Lib.hid (show FinRel2 w m oa n cap L m2 _ n2 cap2 _ q9 q11 ⟨ga, gb, gc⟩ w12 from ⟨HK11.out.step hb, HG11.out.step hb, HJ11.out.step hb⟩)
        clear hb hd a0 a1 x0 x1 HK11 HX11 HG11 HJ11 hA hA2 HD
        have hn30 : n ≤ 100 := by have := HAL.out.1; have := HN.out; omega
        have hn230 : n2 ≤ 100 := by have := HAR.out.1; have := HN2.out; omega
        have S1 := Lib.hid (fun W hW => size_tab m oa n cap L HN.out HAL.out.2 hn30 W hW)
        have S2 := Lib.hid (fun W hW => refSize_tab m oa n cap L HN.out HAL.out.2 hn30 W hW)
        have S3 := Lib.hid (fun W hW => check_any m oa n cap L HN.out HAL.out.2 hn30 W hW)
        have S4 := Lib.hid (fun W hW => refCheck_any m oa n cap L HN.out HAL.out.2 hn30 W hW)
        have S5 := Lib.hid (fun W hW (hW2 : FieldsN W (some ⟨b, o, none⟩) (⟨fa, fb, fc⟩ :: R')) => same_any m m2 oa (some ⟨b, o, none⟩) n n2 cap cap2 L (⟨fa, fb, fc⟩ :: R') HN.out HN2.out (by omega) (by omega) W hW hW2)
        have S6 := Lib.hid (fun W hW (hW2 : FieldsN W (some ⟨b, o, none⟩) (⟨fa, fb, fc⟩ :: R')) => refSame_any m m2 oa (some ⟨b, o, none⟩) n n2 cap cap2 L (⟨fa, fb, fc⟩ :: R') HN.out HN2.out (by omega) (by omega) W hW hW2)
        generalize sumF L = sm at S1 S2
        generalize chkN m L = ck at S3 S4
        generalize (decide (m = m2) && sameL L (⟨fa, fb, fc⟩ :: R')) = sb at S5 S6
        go_upto_region 11 with fail
        refine class_region (C := FinRel2 w m oa n cap L m2 (some ⟨b, o, none⟩) n2 cap2 (⟨fa, fb, fc⟩ :: R') q9 q11 ⟨ga, gb, gc⟩) (by kernel_rfl) (by kernel_rfl) HQ.out.drew ?_
        repeat
          with_reducible refine qrest_step ?_
          intro K hK'
          go_simp
          first
            | (with_reducible refine hK' _ ?_)
            | (with_reducible refine QOp.mk ?_
               apply Exists.intro
               with_reducible refine ⟨?_, hK' _ ?_⟩
               · intro W hW
                 have c30 := hW.rel.a0
                 have c31 := hW.rel.a1
                 have c40 := hW.rel.b0
                 have c41 := hW.rel.b1
                 have c70 := hW.rel.r7.c0
                 have c71 := hW.rel.r7.c1
                 have c90 := hW.r9.c0
                 have c91 := hW.r9.c1
                 have c92 := hW.r9.c2
                 have d90 := hW.r11.c0
                 have d91 := hW.r11.c1
                 have d92 := hW.r11.c2
                 simp only at c90 c91 c92 d90 d91 d92
                 unfold QAt
                 go_simp
                 first
                   | (with_reducible rfl)
                   | (go_at_call 31; refine (S1.out _ hW.rel.fl).mono ?_; rintro e w' ⟨rfl, hb⟩; exact ⟨rfl, FinRel2.step hb hW⟩)
                   | (go_at_call 32; refine (S2.out _ hW.rel.fl).mono ?_; rintro e w' ⟨rfl, hb⟩; exact ⟨rfl, FinRel2.step hb hW⟩)
                   | (go_at_call 33; refine (S3.out _ hW.rel.fl).mono ?_; rintro e w' ⟨rfl, hb⟩; exact ⟨rfl, FinRel2.step hb hW⟩)
                   | (go_at_call 34; refine (S4.out _ hW.rel.fl).mono ?_; rintro e w' ⟨rfl, hb⟩; exact ⟨rfl, FinRel2.step hb hW⟩)
                   | (go_at_call 35; refine (S5.out _ hW.rel.fl hW.rel.fr).mono ?_; rintro e w' ⟨rfl, hb⟩; exact ⟨rfl, FinRel2.step hb hW⟩)
                   | (go_at_call 36; refine (S6.out _ hW.rel.fl hW.rel.fr).mono ?_; rintro e w' ⟨rfl, hb⟩; exact ⟨rfl, FinRel2.step hb hW⟩)
                   | (go_at_call 26; refine (awake04_any _).mono ?_; rintro e w' ⟨rfl, hb⟩; exact ⟨rfl, FinRel2.step hb hW⟩))
          clear hK' K
        with_reducible refine qrest_nil ?_
        intro w' hw'
        go_wp2
        go_ret
        exact ⟨rfl, hw'.rel.below⟩
#print axioms dyntabFinds_any
end Go.Proofs.Ytmnaljnkgaebkaa
