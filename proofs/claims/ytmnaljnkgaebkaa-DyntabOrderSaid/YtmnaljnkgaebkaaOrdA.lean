/- Whatever is added, a table is the newest of what came: the walk of DyntabOrder. -/
import Derived.Test.YtmnaljnkgaebkaaOrdP
import Derived.Test.YtmnaljnkgaebkaaFldY
import Derived.Laws.StructEq
import Derived.Deep.DeepCutAuto
namespace Go.Proofs.Ytmnaljnkgaebkaa
open Go.RowKit
set_option linter.unusedVariables false
set_option linter.unusedSimpArgs false

def U16N (W : World) (os : Option Addr) (zs : List Nat) : Prop := ∀ i, i < zs.length → ∃ b o, os = some ⟨b, o, none⟩ ∧ W.cell? ⟨b, o + i, none⟩ = some (.int .u16 ((zs.getD i 0 : Nat) : Int)) ∧ zs.getD i 0 < 65536
theorem U16N.below {W W' : World} {os : Option Addr} {zs : List Nat} (h : U16N W os zs) (hb : Below W.heap.size W W') : U16N W' os zs := fun i hi => by
  obtain ⟨b, o, e, hc, hl⟩ := h i hi
  exact ⟨b, o, e, (hb.cell (p := ⟨b, o + i, none⟩) (World.block_lt_of_cell? _ _ hc)).trans hc, hl⟩
theorem resize_ok (mx most : Int) (oa : Option Addr) (n cap : Nat) (T : List Fld) (hn : T.length = n) (hl : ∀ f ∈ T, lightF f = true) (hn30 : n ≤ 100) (hc : chkN mx T = 0) (hm : 0 ≤ most ∧ most ≤ 4096) (W : World) (hf : FieldsN W oa T) :
    Calls Try.prog 38 #[.agg #[.int .i64 mx, .slice oa n cap], .int .i64 most] W fun e w' => ∃ oa' cap' n1 a T1, T1 = T.take a ∧ T1.length = n1 ∧ chkN most T1 = 0 ∧ e = .returned (.tuple #[.agg #[.int .i64 most, .slice oa' n1 cap'], .int .i64 0]) ∧ OwnF w' W.heap.size (.slice oa' n1 cap') T1 ∧ Below W.heap.size W w' :=
  (resize_any mx most oa n cap T hn hl hn30 W hf).mono (by
    rintro e w' ⟨v, rfl, ho, hb⟩
    obtain ⟨r1, r2, r3⟩ := res_ok hc hm
    rw [r3] at ho
    rw [r1, r2]
    obtain ⟨oa', cap', rfl, _⟩ := ho.form
    exact ⟨oa', cap', _, _, _, rfl, rfl, chk_take hc hm, rfl, ho, hb⟩)
theorem add_own (mx : Int) (oa : Option Addr) (n cap : Nat) (T : List Fld) (hn : T.length = n) (hl : ∀ f ∈ T, lightF f = true) (hn30 : n ≤ 100) (f : Fld) (hlf : lightF f = true) (W : World) (hf : FieldsN W oa T) :
    Calls Try.prog 39 #[.agg #[.int .i64 mx, .slice oa n cap], .agg #[.string f.name, .string f.value, .bool f.never]] W fun e w' => ∃ oa' cap' n2 T2, T2 = addL mx T f ∧ T2.length = n2 ∧ e = .returned (.agg #[.int .i64 mx, .slice oa' n2 cap']) ∧ OwnF w' W.heap.size (.slice oa' n2 cap') T2 ∧ Below W.heap.size W w' :=
  (add_any mx oa n cap T hn hl hn30 f hlf W hf).mono (by
    rintro e w' ⟨v, rfl, ho, hb⟩
    obtain ⟨oa', cap', rfl, _⟩ := ho.form
    exact ⟨oa', cap', _, _, rfl, rfl, rfl, ho, hb⟩)
theorem FieldsN.take {W : World} {oa : Option Addr} {L : List Fld} (h : FieldsN W oa L) (k : Nat) : FieldsN W oa (L.take k) := by
  intro i f hf
  rw [List.getElem?_take] at hf
  split at hf
  · exact h i f hf
  · cases hf
/-- What stays in memory while a round looks at what was made. -/
structure OrdCls (w : World) (q5 q9 q10 : Nat) (mx : Int) (ot : Option Addr) (ct n2 : Nat) (T2 : List Fld) (gA nA cA : Nat) (A : List Fld) (f g : Fld) (W : World) : Prop where
  row : TRow W q5 mx (.slice ot n2 ct)
  r9 : FRow W q9 f
  r10 : FRow W q10 g
  fl : FieldsN W ot T2
  fa : FieldsN W (some ⟨gA, 0, none⟩) A
  oT : OwnF W w.heap.size (.slice ot n2 ct) T2
  oA : OwnF W w.heap.size (.slice (some ⟨gA, 0, none⟩) nA cA) A
  below : Below w.heap.size w W
theorem OrdCls.step {w : World} {q5 q9 q10 : Nat} {mx : Int} {ot : Option Addr} {ct n2 : Nat} {T2 : List Fld} {gA nA cA : Nat} {A : List Fld} {f g : Fld} {W W' : World} (hb : Below W.heap.size W W') (h : OrdCls w q5 q9 q10 mx ot ct n2 T2 gA nA cA A f g W) : OrdCls w q5 q9 q10 mx ot ct n2 T2 gA nA cA A f g W' :=
  ⟨h.row.step hb, h.r9.step hb, h.r10.step hb, h.fl.below hb, h.fa.below hb, h.oT.step hb, h.oA.step hb, h.below.trans (hb.mono h.below.size)⟩
theorem OrdCls.drew {w : World} {q5 q9 q10 : Nat} {mx : Int} {ot : Option Addr} {ct n2 : Nat} {T2 : List Fld} {gA nA cA : Nat} {A : List Fld} {f g : Fld} {W : World} (h : OrdCls w q5 q9 q10 mx ot ct n2 T2 gA nA cA A f g W) : OrdCls w q5 q9 q10 mx ot ct n2 T2 gA nA cA A f g W.drew :=
  ⟨h.row, h.r9, h.r10, h.fl, h.fa, h.oT, h.oA, h.below.drew⟩
/-- What holds at each round's head: the table, and the fields in it, the newest first. -/
structure OrdRel (w : World) (q5 : Nat) (mx : Int) (ot oc : Option Addr) (ct cc nT : Nat) (T : List Fld) (W : World) : Prop where
  row : TRow W q5 mx (.slice ot nT ct)
  len : T.length = nT
  ownT : OwnF W w.heap.size (.slice ot nT ct) T
  ownC : OwnF W w.heap.size (.slice oc nT cc) T
  chk : chkN mx T = 0
  light : ∀ f ∈ T, lightF f = true
  below : Below w.heap.size w W
  base : w.heap.size ≤ q5

set_option maxRecDepth 100000 in
set_option maxHeartbeats 8000000 in
theorem dyntabOrder_any (oa : Option Addr) (n cap : Nat) (L : List Fld) (hn : L.length = n) (os : Option Addr) (ns cs : Nat) (zs : List Nat) (hz : zs.length = ns) (w : World) (hf : FieldsN w oa L) (hu : U16N w os zs) :
    Calls Try.prog 8 #[.slice oa n cap, .slice os ns cs] w fun e w' => e = .returned (.bool true) ∧ Below w.heap.size w w' := by
  have HN := Lib.hid hn
  have HZ := Lib.hid hz
  have HF := Lib.hid hf
  have HU := Lib.hid hu
  have HLI := Lib.hid (light_any oa n cap L hn w hf)
  clear hn hf hz hu
  go_enter Try.func8, Try.ntmps8
  go_wp2_with fail
  refine HLI.out.mono ?_
  rintro e w1 ⟨rfl, hw⟩
  subst hw
  clear HLI
  cases hli : light L
  · go_wp2_with fail
    refine (awake04_any _).mono ?_
    rintro e w3 ⟨rfl, hb⟩
    have HB1 := Lib.hid hb
    clear hb
    go_wp2_with fail
    go_ret
    exact ⟨rfl, HB1.out⟩
  · have HAL := Lib.hid (light_all' hli)
    have hn30 : n ≤ 30 := by have := (light_all' hli).1; rw [HN.out] at this; exact this
    clear hli
    by_cases hns : ns ≤ 30
    · have hsb : decide ((30 : Int) < (ns : Int)) = false := decide_eq_false (by omega)
      go_wp2_with fail
      refine (new_yes 4096 (by omega) _).mono ?_
      rintro e w2 ⟨rfl, hb⟩
      have HR0 := Lib.hid (show OrdRel w1 w2.heap.size 4096 none none 0 0 0 [] (w2.alloc (.cells #[.int .i64 4096, .slice none 0 0] 48)) from
        ⟨TRow.new w2 4096 (.slice none 0 0), rfl, World.ownsRow_nil _ _ _ _, World.ownsRow_nil _ _ _ _, rfl, fun f h => by simp at h, hb.alloc hb.size _, hb.size⟩)
      clear hb
      go_upto_region 4 with fail
      generalize w2.heap.size = q5 at HR0 ⊢
      generalize w2.alloc (.cells #[.int .i64 4096, .slice none 0 0] 48) = w3 at HR0 ⊢
      go_wp2_with fail
      go_loopw [6, 7, 8] (fun er al i wr => ∃ (mx : Int) (ot oc : Option Addr) (ct cc nT k : Nat) (T : List Fld), er = .int .i64 0 ∧ al = .slice oc nT cc ∧ i = .int .i64 k ∧ k ≤ n ∧ nT ≤ k ∧ OrdRel w1 q5 mx ot oc ct cc nT T wr) (fun _ _ i _ => n - (intOf i).toNat)
      case atStart => exact ⟨4096, none, none, 0, 0, 0, 0, [], rfl, rfl, rfl, Nat.zero_le _, Nat.le_refl _, HR0.out⟩
      case round =>
        obtain ⟨mx, ot, oc, ct, cc, nT, k, T, rfl, rfl, rfl, hk, hnT, hR⟩ := hrel
        have HR := Lib.hid hR
        clear hR
        by_cases hkn : k < n
        · have hkb : decide ((k : Int) < (n : Int)) = true := decide_eq_true (by omega)
          have hki : (k : Int) < (n : Int) := by omega
          have hk0 : (0 : Int) ≤ (k : Int) := by omega
          go_upto_if 36 with fail
          go_cut [6] (fun er wx => ∃ (mx1 : Int) (ot1 : Option Addr) (ct1 n1 a : Nat) (T1 : List Fld), er = .int .i64 0 ∧ T1 = T.take a ∧ TRow wx q5 mx1 (.slice ot1 n1 ct1) ∧ T1.length = n1 ∧ OwnF wx w1.heap.size (.slice ot1 n1 ct1) T1 ∧ OwnF wx w1.heap.size (.slice oc nT cc) T ∧ chkN mx1 T1 = 0 ∧ Below w1.heap.size w1 wx)
          case first =>
            by_cases hks : k < ns
            · have hksb : decide ((k : Int) < (ns : Int)) = true := decide_eq_true (by omega)
              have hksi : (k : Int) < (ns : Int) := by omega
              obtain ⟨b, o, rfl, hcz, hzl⟩ := (HU.out.below HR.out.below) k (by rw [HZ.out]; exact hks)
              generalize zs.getD k 0 = z at hcz hzl
              have hmod : Int.tmod (z : Int) 4097 = ((z % 4097 : Nat) : Int) := by rw [Int.tmod_eq_emod_of_nonneg (by omega)]; omega
              have hwz : IntKind.i64.wrap (z : Int) = (z : Int) := IntWalk.i64_in _ (by omega)
              have hwm : IntKind.i64.wrap ((z % 4097 : Nat) : Int) = ((z % 4097 : Nat) : Int) := IntWalk.i64_in _ (by omega)
              have t0 := HR.out.row.c0
              have t1 := HR.out.row.c1
              obtain ⟨_, _, e5, hfT, hfr⟩ := HR.out.ownT.form
              obtain ⟨rfl, hz5, rfl⟩ := Value.slice.inj e5
              clear hz5 hfr
              have HRS := Lib.hid (fun W hW => resize_ok mx ((z % 4097 : Nat) : Int) ot nT ct T HR.out.len HR.out.light (by omega) HR.out.chk (by omega) W hW)
              have HFT := Lib.hid hfT
              clear e5 hfT
              have HZZ := Lib.hid (show (0 : Int) ≤ ((z % 4097 : Nat) : Int) ∧ ((z % 4097 : Nat) : Int) ≤ 4096 from by omega)
              generalize (z % 4097 : Nat) = zz at hmod hwm HRS HZZ
              go_upto_region 11 with fail
              go_region_with (go_at_call 38; refine (HRS.out _ (FieldsN.below HFT.out (Below.refl _ _).drew)).mono ?_; rintro e w4 ⟨ot1, ct1, n1, a, T1, ha, hl1, hch, rfl, ho, hb⟩; have HO := Lib.hid ho; have HAA := Lib.hid ha; have HL1 := Lib.hid hl1; have HCH := Lib.hid hch; have HBB := Lib.hid ((Below.refl wr.heap.size wr).drew.trans hb); have hT4 : TRow w4 q5 mx (.slice ot nT ct) := (hb.block q5 HR.out.row.lt).trans HR.out.row; have e0 := hT4.c0; have e1 := hT4.c1; have f0 := hT4.z 0; have f1 := hT4.z 1; have HT4 := Lib.hid hT4; clear ho hb ha hl1 hch hT4)
              all_goals
                have HE1 := Lib.hid ((HT4.out.set0 (zz : Int)).set1 (.slice ot1 n1 ct1))
                have HE2 := Lib.hid ((((HO.out.mono HR.out.below.size).setne q5 0 (.int .i64 (zz : Int)) (HO.out.ne_table HT4.out)).setne q5 1 (.slice ot1 n1 ct1) (HO.out.ne_table HT4.out)))
                have HE3 := Lib.hid ((((HR.out.ownC.step HBB.out).setne q5 0 (.int .i64 (zz : Int)) ((HR.out.ownC.step HBB.out).ne_table HT4.out)).setne q5 1 (.slice ot1 n1 ct1) ((HR.out.ownC.step HBB.out).ne_table HT4.out)))
                have HE5 := Lib.hid (((HR.out.below.trans (HBB.out.mono HR.out.below.size)).setCell (show w1.heap.size ≤ (⟨q5, 0, none⟩ : Addr).block from HR.out.base) (.int .i64 (zz : Int))).setCell (show w1.heap.size ≤ (⟨q5, 1, none⟩ : Addr).block from HR.out.base) (.slice ot1 n1 ct1))
                go_wp2_with fail
                go_meet
                exact ⟨_, ot1, ct1, _, a, T1, rfl, HAA.out, HE1.out, HL1.out, HE2.out, HE3.out, HCH.out, HE5.out⟩
            · have hksb : decide ((k : Int) < (ns : Int)) = false := decide_eq_false (by omega)
              go_wp2_with fail
              go_meet
              exact ⟨mx, ot, ct, nT, nT, T, rfl, (by rw [← HR.out.len, List.take_length]), HR.out.row, HR.out.len, HR.out.ownT, HR.out.ownC, HR.out.chk, HR.out.below⟩
          case rest =>
            obtain ⟨wd, hwd⟩ : ∃ wd, wd = wc := ⟨wc, rfl⟩
            subst hwd
            obtain ⟨mx1, ot1, ct1, n1, a, T1, rfl, hT1, hrow, hl1, hoT, hoC, hchk, hbel⟩ := hcut
            have HT1 := Lib.hid hT1
            have HROW := Lib.hid hrow
            have HL1 := Lib.hid hl1
            have HOT := Lib.hid hoT
            have HOC := Lib.hid hoC
            have HCHK := Lib.hid hchk
            have HBEL := Lib.hid hbel
            clear hT1 hrow hl1 hoT hoC hchk hbel
            have hkL : k < L.length := by rw [HN.out]; exact hkn
            obtain ⟨b, o, rfl, g0, g1, g2⟩ := (HF.out.below HBEL.out) k L[k] (List.getElem?_eq_getElem hkL)
            have HLF := Lib.hid (HAL.out.2 L[k] (List.getElem_mem hkL))
            have hn1 : n1 ≤ 30 := by have := HL1.out; rw [HT1.out, List.length_take] at this; have := HR.out.len; omega
            have HLT1 := Lib.hid (show ∀ f ∈ T1, lightF f = true from by rw [HT1.out]; exact light_take HR.out.light a)
            have HFK := Lib.hid (List.getElem?_eq_getElem hkL)
            generalize L[k] = f at g0 g1 g2 HLF HFK
            obtain ⟨fa, fb, fc⟩ := f
            simp only at g0 g1 g2
            have HADD := Lib.hid (fun W hW => add_own mx1 ot1 n1 ct1 T1 HL1.out HLT1.out (by omega) ⟨fa, fb, fc⟩ HLF.out W hW)
            simp only at HADD
            obtain ⟨_, _, e5, hfT, hfr⟩ := HOT.out.form
            obtain ⟨rfl, hz5, rfl⟩ := Value.slice.inj e5
            clear hz5 hfr e5
            have HFT := Lib.hid hfT
            clear hfT
            have t0 := HROW.out.c0
            have t1 := HROW.out.c1
            go_upto_region 14 with fail
            go_cut [] (fun wx => ∃ (ot2 : Option Addr) (ct2 n2 : Nat) (T2 : List Fld), T2 = addL mx1 T1 ⟨fa, fb, fc⟩ ∧ T2.length = n2 ∧ TRow wx q5 mx1 (.slice ot2 n2 ct2) ∧ OwnF wx w1.heap.size (.slice ot2 n2 ct2) T2 ∧ OwnF wx w1.heap.size (.slice oc nT cc) T ∧ Below w1.heap.size w1 wx)
            case first =>
              go_region_with (go_at_call 39; refine (HADD.out _ (FieldsN.below HFT.out (Below.refl _ _).drew)).mono ?_; rintro e w4 ⟨ot2, ct2, n2, T2, ha, hl2, rfl, ho, hb⟩; have HO := Lib.hid ho; have HAA := Lib.hid ha; have HL2 := Lib.hid hl2; have HBB := Lib.hid ((Below.refl wd.heap.size wd).drew.trans hb); have hT4 : TRow w4 q5 mx1 (.slice ot1 n1 ct1) := (hb.block q5 HROW.out.lt).trans HROW.out; have e0 := hT4.c0; have e1 := hT4.c1; have f0 := hT4.z 0; have f1 := hT4.z 1; have HT4 := Lib.hid hT4; clear ho hb ha hl2 hT4)
              all_goals
                have HE1 := Lib.hid ((HT4.out.set0 mx1).set1 (.slice ot2 n2 ct2))
                have HE2 := Lib.hid ((((HO.out.mono HBEL.out.size).setne q5 0 (.int .i64 mx1) (HO.out.ne_table HT4.out)).setne q5 1 (.slice ot2 n2 ct2) (HO.out.ne_table HT4.out)))
                have HE3 := Lib.hid ((((HOC.out.step HBB.out).setne q5 0 (.int .i64 mx1) ((HOC.out.step HBB.out).ne_table HT4.out)).setne q5 1 (.slice ot2 n2 ct2) ((HOC.out.step HBB.out).ne_table HT4.out)))
                have HE5 := Lib.hid (((HBEL.out.trans (HBB.out.mono HBEL.out.size)).setCell (show w1.heap.size ≤ (⟨q5, 0, none⟩ : Addr).block from HR.out.base) (.int .i64 mx1)).setCell (show w1.heap.size ≤ (⟨q5, 1, none⟩ : Addr).block from HR.out.base) (.slice ot2 n2 ct2))
                go_wp2_with fail
                go_meet
                exact ⟨ot2, ct2, n2, T2, HAA.out, HL2.out, HE1.out, HE2.out, HE3.out, HE5.out⟩
            case rest =>
              obtain ⟨ot2, ct2, n2, T2, hT2, hl2, hrow, hoT, hoC, hbel⟩ := hcut
              clear HROW HOT HOC HBEL HFT t0 t1 g0 g1 g2
              have HT2 := Lib.hid hT2
              have HROW := Lib.hid hrow
              have HL2 := Lib.hid hl2
              have HOT := Lib.hid hoT
              have HOC := Lib.hid hoC
              have HBEL := Lib.hid hbel
              clear hT2 hl2 hrow hoT hoC hbel
              obtain ⟨_, _, e5, g0, g1, g2⟩ := (HF.out.below HBEL.out) k ⟨fa, fb, fc⟩ HFK.out
              obtain ⟨rfl, rfl, _⟩ := Addr.mk.inj (Option.some.inj e5)
              clear e5
              simp only at g0 g1 g2
              have hbn := (Below.refl wc.heap.size wc).alloc (Nat.le_refl _) (.cells #[.string fa, .string fb, .bool fc] 50)
              have HX9 := Lib.hid (show FRow (wc.alloc (.cells #[.string fa, .string fb, .bool fc] 50)) wc.heap.size ⟨fa, fb, fc⟩ from heap_alloc_new wc _)
              have HR15 := Lib.hid (HROW.out.step hbn)
              have HT15 := Lib.hid (HOT.out.step hbn)
              have HC15 := Lib.hid (HOC.out.step hbn)
              have HB15 := Lib.hid (HBEL.out.trans (hbn.mono HBEL.out.size))
              have HQ9 := Lib.hid (show q5 < wc.heap.size from HROW.out.lt)
              have HGT := Lib.hid (fun g hg => (HOT.out.lt g hg).2)
              have HGC := Lib.hid (fun g hg => (HOC.out.lt g hg).2)
              clear hbn
              go_upto_region 16 with fail
              generalize wc.alloc (.cells #[.string fa, .string fb, .bool fc] 50) = wa at HX9 HR15 HT15 HC15 HB15 ⊢
              have HWS := Lib.hid HBEL.out.size
              clear HROW HOT HOC HBEL g0 g1 g2
              generalize wc.heap.size = q9 at HX9 HQ9 HGT HGC HWS ⊢
              have x2 := HX9.out.c2
              have z2 := HX9.out.z 2
              have HX16 := Lib.hid (HX9.out.set2 false)
              have HR16 := Lib.hid (HR15.out.other q9 2 (by have := HQ9.out; omega) (.bool false))
              have HT16 := Lib.hid (HT15.out.setne q9 2 (.bool false) (fun g hg e => by have := HGT.out g hg; omega))
              have HC16 := Lib.hid (HC15.out.setne q9 2 (.bool false) (fun g hg e => by have := HGC.out g hg; omega))
              have HB16 := Lib.hid (HB15.out.setCell (show w1.heap.size ≤ (⟨q9, 2, none⟩ : Addr).block from HWS.out) (.bool false))
              go_upto_region 17 with fail
              generalize wa.setCell ⟨q9, 2, none⟩ (.bool false) = wb at HX16 HR16 HT16 HC16 HB16 ⊢
              clear HX9 HR15 HT15 HC15 HB15 x2 z2
              have y0 := HX16.out.c0
              have y1 := HX16.out.c1
              have y2 := HX16.out.c2
              simp only at y0 y1 y2
              obtain ⟨_, _, e5, hfC, hlcC, hmxC, _⟩ := HC16.out.form
              obtain ⟨rfl, hz5, rfl⟩ := Value.slice.inj e5
              clear hz5 e5
              have HFC := Lib.hid hfC
              clear hfC hlcC hmxC
              go_cut [7] (fun al wx => ∃ (oc2 : Option Addr) (cc2 : Nat), al = .slice oc2 (nT + 1) cc2 ∧ OwnF wx w1.heap.size (.slice oc2 (nT + 1) cc2) (⟨fa, fb, false⟩ :: T) ∧ Below wb.heap.size wb wx)
              case first =>
                obtain ⟨i0, hi0, hz0, hz1, hz2⟩ := info_parts field_info
                have HI := Lib.hid hi0
                have HZ0 := Lib.hid hz0
                have HZ1 := Lib.hid hz1
                have HZ2 := Lib.hid hz2
                clear hi0 hz0 hz1 hz2
                have HLT := Lib.hid HR.out.len
                have HO := Lib.hid (World.ownsRow_lit (e := 50) (size := 3) wb #[.string fa, .string fb, .bool false] 1 (Nat.le_refl _) (by decide) rfl)
                cases oc with
                | none =>
                  have hT0 := HFC.out.none_nil
                  subst hT0
                  obtain rfl := HLT.out
                  simp only [List.length_nil] at *
                  have hrun : ∀ ty, (Builtin.append_ #[44, 44] ty #[.slice (some ⟨wb.heap.size, 0, none⟩) 1 1, .slice none 0 cc]).run Try.prog (wb.alloc (.cells #[.string fa, .string fb, .bool false] 50)) = .ok (.slice (some ⟨wb.heap.size, 0, none⟩) 1 1) (wb.alloc (.cells #[.string fa, .string fb, .bool false] 50)) := fun ty =>
                    run_append_room_src _ 44 44 ty 50 i0 Try.underlying44 HI.out wb.heap.size 0 1 1 (.slice none 0 cc) 0 [] (Src.ofNil _ Try.underlying44 cc) (by omega) (fun j hj => by simp at hj) (fun j hj => by simp at hj)
                  go_wp2_with (at_builtin; refine Lib.wpList_append_run _ rfl _ _ _ _ rfl _ _ rfl rfl _ _ (hrun _) ?_)
                  go_meet
                  exact ⟨some ⟨wb.heap.size, 0, none⟩, 1, rfl, World.ownsRow.mono HO.out HB16.out.size, (Below.refl _ _).alloc (Nat.le_refl _) _⟩
                | some ad =>
                  have hnews : ∀ j u, (fcells T)[j]? = some u → (wb.alloc (.cells #[.string fa, .string fb, .bool false] 50)).cell? (ad.add j) = some u := by
                    intro j u hu
                    cases T with
                    | nil => simp [fcells] at hu
                    | cons f0 l0 =>
                      obtain ⟨b', o', e', _⟩ := HFC.out 0 f0 rfl
                      cases e'
                      have hc := HFC.out.cells (L := f0 :: l0) j u hu
                      have hlt := World.block_lt_of_cell? _ _ hc
                      rw [Addr.add_lit, cell_eq0 (((Below.refl wb.heap.size wb).alloc (Nat.le_refl _) _).block b' hlt)]
                      exact hc
                  have HNW := Lib.hid hnews
                  clear hnews
                  have HFL := Lib.hid (show (fcells T).length = nT * 3 from by rw [fcells_len, HLT.out])
                  have hmx : 1 + nT ≤ maxLen := by unfold maxLen; omega
                  have hsz := ((Below.refl wb.heap.size wb).alloc (Nat.le_refl _) (.cells #[.string fa, .string fb, .bool false] 50)).size
                  have HSZ := Lib.hid hsz
                  clear hsz
                  go_wp2_with (at_builtin; refine wpList_append_own_at _ rfl _ _ 44 rfl wb.heap.size 50 i0 _ 3 40 Try.underlying44 HI.out HZ0.out HZ1.out HZ2.out rfl (by omega) (.slice (some ⟨wb.heap.size, 0, none⟩) 1 1) 1 _ rfl HO.out ad nT cc (fcells T) rfl HFL.out HNW.out (fcells_one T) hmx (by omega) HSZ.out ?_; intro v3 w3 hown3 hg3 _ _; clear hmx)
                  have B3 := Lib.hid (((Below.refl wb.heap.size wb).alloc (Nat.le_refl _) (.cells #[.string fa, .string fb, .bool false] 50)).grown hg3 HSZ.out (fun q hq => (HO.out.lt q hq).1))
                  obtain ⟨g3, cap3, hv3, _⟩ := World.ownsRow.form hown3 (by omega)
                  rw [Nat.add_comm 1 nT] at hv3 hown3
                  have HO3 := Lib.hid (show OwnF w3 w1.heap.size v3 (⟨fa, fb, false⟩ :: T) from by
                    unfold OwnF
                    rw [List.length_cons, HLT.out, fcells_cons]
                    exact World.ownsRow.mono hown3 HB16.out.size)
                  clear hg3 hown3
                  subst hv3
                  go_wp2_with fail
                  go_meet
                  exact ⟨_, _, rfl, HO3.out, B3.out⟩
              case rest =>
                obtain ⟨oc2, cc2, rfl, hoA, hbA⟩ := hcut
                have HLT := Lib.hid HR.out.len
                obtain ⟨gA, _, eA, _, _⟩ := World.ownsRow.form hoA (by simp)
                obtain ⟨rfl, hzA, hzB⟩ := Value.slice.inj eA
                clear hzA hzB eA
                have HOA := Lib.hid hoA
                have HR17 := Lib.hid (HR16.out.step hbA)
                have HT17 := Lib.hid (HT16.out.step hbA)
                have HX17 := Lib.hid (HX16.out.step hbA)
                have HB17 := Lib.hid (HB16.out.trans (hbA.mono HB16.out.size))
                clear hoA hbA y0 y1 y2 HFC HR16 HT16 HC16 HX16 HB16
                obtain ⟨_, _, e6, hfA, hlA, hmA, _⟩ := HOA.out.form
                obtain ⟨e7, hz6, e8⟩ := Value.slice.inj e6
                rw [← e7] at hfA
                rw [← e8, List.length_cons, HLT.out] at hlA
                clear e6 e7 e8 hz6 hmA
                have HFA := Lib.hid hfA
                have hst := step_take a HT1.out HCHK.out ⟨fa, fb, fc⟩
                rw [← HT2.out, HL2.out, HLT.out] at hst
                have HTK := Lib.hid hst.1
                have hn2 : n2 ≤ nT + 1 := hst.2
                have hao := add_ok HCHK.out ⟨fa, fb, fc⟩
                rw [← HT2.out] at hao
                have HAO := Lib.hid hao
                have HLT2 := Lib.hid (show ∀ g ∈ T2, lightF g = true from by rw [HT2.out]; exact light_add HLT1.out _ HLF.out)
                obtain ⟨_, _, e9, hfT2, _⟩ := HT17.out.form
                obtain ⟨rfl, hz9, rfl⟩ := Value.slice.inj e9
                clear hz9 e9 hst hao hfA
                have HFT2 := Lib.hid hfT2
                clear hfT2
                have hc1 : decide ((nT : Int) + 1 < (n2 : Int)) = false := decide_eq_false (by omega)
                have hc2 : (0 : Int) ≤ (n2 : Int) := by omega
                have hc3 : (n2 : Int) ≤ (cc2 : Int) := by omega
                have HCK := Lib.hid (show ∀ W, FieldsN W ot2 T2 → Calls Try.prog 33 #[.agg #[.int .i64 mx1, .slice ot2 n2 ct2]] W fun e w' => e = .returned (.int .i64 0) ∧ Below W.heap.size W w' from fun W hW =>
                  (check_any mx1 ot2 n2 ct2 T2 HL2.out HLT2.out (by omega) W hW).mono (by
                    rintro e w' ⟨rfl, hb⟩
                    rw [HAO.out.1]
                    exact ⟨rfl, hb⟩))
                have HSF := Lib.hid (show ∀ W, FieldsN W ot2 T2 → FieldsN W (some ⟨gA, 0, none⟩) (⟨fa, fb, false⟩ :: T) → Calls Try.prog 40 #[.slice ot2 n2 ct2, .slice (some ⟨gA, 0, none⟩) n2 cc2] W fun e w' => e = .returned (.bool true) ∧ Below W.heap.size W w' from fun W hW hA =>
                  (sameFields_any ot2 (some ⟨gA, 0, none⟩) n2 n2 ct2 cc2 T2 T2 HL2.out HL2.out (by omega) (by omega) W hW (by
                    have h := hA.take n2
                    rw [show ((⟨fa, fb, false⟩ :: T : List Fld)).take n2 = T2 from HTK.out.symm] at h
                    exact h)).mono (by
                    rintro e w' ⟨rfl, hb⟩
                    rw [sameL_refl]
                    exact ⟨rfl, hb⟩))
                have HCL := Lib.hid (show OrdCls w1 q5 q9 q9 mx1 ot2 ct2 n2 T2 gA (nT + 1) cc2 (⟨fa, fb, false⟩ :: T) ⟨fa, fb, false⟩ ⟨fa, fb, false⟩ wc from ⟨HR17.out, HX17.out, HX17.out, HFT2.out, HFA.out, HT17.out, HOA.out, HB17.out⟩)
                go_upto_region 18 with fail
                refine class_region (C := OrdCls w1 q5 q9 q9 mx1 ot2 ct2 n2 T2 gA (nT + 1) cc2 (⟨fa, fb, false⟩ :: T) ⟨fa, fb, false⟩ ⟨fa, fb, false⟩) (by kernel_rfl) (by kernel_rfl) HCL.out.drew ?_
                repeat
                  with_reducible refine qrest_step ?_
                  intro K hK'
                  go_simp
                  first
                    | (with_reducible refine hK' _ ?_)
                    | (with_reducible refine QOp.mk ?_
                       apply Exists.intro
                       with_reducible refine ⟨?_, hK' _ ?_⟩
                       · intro W hW
                         have c70 := hW.row.c0
                         have c71 := hW.row.c1
                         unfold QAt
                         go_simp
                         first
                           | (with_reducible rfl)
                           | (go_at_call 33; refine (HCK.out _ hW.fl).mono ?_; rintro e w' ⟨rfl, hb⟩; exact ⟨rfl, OrdCls.step hb hW⟩)
                           | (go_at_call 40; refine (HSF.out _ hW.fl hW.fa).mono ?_; rintro e w' ⟨rfl, hb⟩; exact ⟨rfl, OrdCls.step hb hW⟩))
                  clear hK' K
                with_reducible refine qrest_nil ?_
                intro w18 hw18
                have HW18 := Lib.hid hw18
                clear hw18
                go_upto_region 20 with fail
                have hszi : (fa.size : Int) + (fb.size : Int) + 32 = ((Fld.sz ⟨fa, fb, fc⟩ : Nat) : Int) := by show _ = ((fa.size + fb.size + 32 : Nat) : Int); omega
                have hlf2 := HLF.out
                simp only [lightF, Bool.and_eq_true, decide_eq_true_eq] at hlf2
                have HFS := Lib.hid (fun W => field_size fa fb false (by omega) (by omega) W)
                clear hlf2
                have t0 := HW18.out.row.c0
                have t1 := HW18.out.row.c1
                by_cases hsm : ((Fld.sz ⟨fa, fb, fc⟩ : Nat) : Int) ≤ mx1
                · obtain ⟨k2, _, hT2e⟩ := HAO.out.2.1 hsm
                  have hsz2 : decide ((fa.size : Int) + (fb.size : Int) + 32 ≤ mx1) = true := decide_eq_true (by rw [hszi]; exact hsm)
                  have HAT := Lib.hid (show ∀ W, FieldsN W ot2 T2 → Calls Try.prog 27 #[.agg #[.int .i64 mx1, .slice ot2 n2 ct2], .int .i64 62] W fun e w' => e = .returned (.tuple #[.agg #[.string fa, .string fb, .bool false], .bool true]) ∧ Below W.heap.size W w' from fun W hW =>
                    (dAt_any mx1 ot2 n2 ct2 T2 HL2.out 62 rfl W hW).mono (by
                      rintro e w' ⟨rfl, hb⟩
                      rw [hT2e]
                      exact ⟨rfl, hb⟩))
                  clear hszi hsm hT2e
                  go_wp2_with fail
                  refine (HAT.out _ HW18.out.fl).mono ?_
                  rintro e w19 ⟨rfl, hb0⟩
                  have hb := hb0.alloc hb0.size (.cells #[.string fa, .string fb, .bool false] 50)
                  have HC20 := Lib.hid (HW18.out.step hb)
                  have HG20 := Lib.hid (show FRow (w19.alloc (.cells #[.string fa, .string fb, .bool false] 50)) w19.heap.size ⟨fa, fb, false⟩ from heap_alloc_new w19 _)
                  have HB20 := Lib.hid ((HW18.out.below.trans (hb.mono HW18.out.below.size)))
                  have HBW := Lib.hid hb
                  clear hb hb0 t0 t1
                  go_upto_region 21 with fail
                  generalize w19.heap.size = q10 at HG20 ⊢
                  generalize w19.alloc (.cells #[.string fa, .string fb, .bool false] 50) = w20 at HC20 HG20 HB20 HBW ⊢
                  have HD20 := Lib.hid (show OrdCls w1 q5 q9 q10 mx1 ot2 ct2 n2 T2 gA (nT + 1) cc2 (⟨fa, fb, false⟩ :: T) ⟨fa, fb, false⟩ ⟨fa, fb, false⟩ w20 from ⟨HC20.out.row, HC20.out.r9, HG20.out, HC20.out.fl, HC20.out.fa, HC20.out.oT, HC20.out.oA, HC20.out.below⟩)
                  refine class_region (C := OrdCls w1 q5 q9 q10 mx1 ot2 ct2 n2 T2 gA (nT + 1) cc2 (⟨fa, fb, false⟩ :: T) ⟨fa, fb, false⟩ ⟨fa, fb, false⟩) (by kernel_rfl) (by kernel_rfl) HD20.out.drew ?_
                  repeat
                    with_reducible refine qrest_step ?_
                    intro K hK'
                    go_simp
                    first
                      | (with_reducible refine hK' _ ?_)
                      | (with_reducible refine QOp.mk ?_
                         apply Exists.intro
                         with_reducible refine ⟨?_, hK' _ ?_⟩
                         · intro W hW
                           have c70 := hW.row.c0
                           have c90 := hW.r9.c0
                           have c91 := hW.r9.c1
                           have c92 := hW.r9.c2
                           have d90 := hW.r10.c0
                           have d91 := hW.r10.c1
                           have d92 := hW.r10.c2
                           simp only at c90 c91 c92 d90 d91 d92
                           unfold QAt
                           go_simp
                           first
                             | (with_reducible rfl)
                             | (go_at_call 41; refine (HFS.out _).mono ?_; rintro e w' ⟨rfl, hb⟩; exact ⟨rfl, OrdCls.step hb hW⟩))
                    clear hK' K
                  with_reducible refine qrest_nil ?_
                  intro w21 hw21
                  have HW21 := Lib.hid hw21
                  clear hw21
                  have t1' := HW21.out.row.c1
                  have HCT := Lib.hid (show OwnF w21 w1.heap.size (.slice (some ⟨gA, 0, none⟩) n2 cc2) T2 from by
                    have h := HW21.out.oA
                    rw [show nT + 1 = (⟨fa, fb, false⟩ :: T : List Fld).length from by rw [List.length_cons, HLT.out]] at h
                    have h2 := OwnF.take h n2 (by rw [List.length_cons, HLT.out]; exact hn2)
                    rw [show ((⟨fa, fb, false⟩ :: T : List Fld)).take n2 = T2 from HTK.out.symm] at h2
                    exact h2)
                  have hkk : n2 ≤ k + 1 := by omega
                  go_wp2_with fail
                  go_roundw
                  case rel => exact ⟨mx1, ot2, some ⟨gA, 0, none⟩, ct2, cc2, n2, k + 1, T2, rfl, rfl, by go_num, by omega, hkk, ⟨HW21.out.row, HL2.out, HW21.out.oT, HCT.out, HAO.out.1, HLT2.out, HW21.out.below, HR.out.base⟩⟩
                  case measure => simp [intOf]; omega
                · have hT2e := HAO.out.2.2 (by omega)
                  have hsz2 : decide ((fa.size : Int) + (fb.size : Int) + 32 ≤ mx1) = false := decide_eq_false (by rw [hszi]; exact hsm)
                  have HAT := Lib.hid (show ∀ W, FieldsN W ot2 T2 → Calls Try.prog 27 #[.agg #[.int .i64 mx1, .slice ot2 n2 ct2], .int .i64 62] W fun e w' => e = .returned (.tuple #[.agg #[.string ⟨#[]⟩, .string ⟨#[]⟩, .bool false], .bool false]) ∧ Below W.heap.size W w' from fun W hW =>
                    (dAt_any mx1 ot2 n2 ct2 T2 HL2.out 62 rfl W hW).mono (by
                      rintro e w' ⟨rfl, hb⟩
                      rw [hT2e]
                      exact ⟨rfl, hb⟩))
                  clear hszi hsm hT2e
                  go_wp2_with fail
                  refine (HAT.out _ HW18.out.fl).mono ?_
                  rintro e w19 ⟨rfl, hb0⟩
                  have hb := hb0.alloc hb0.size (.cells #[.string ⟨#[]⟩, .string ⟨#[]⟩, .bool false] 50)
                  have HC20 := Lib.hid (HW18.out.step hb)
                  have HG20 := Lib.hid (show FRow (w19.alloc (.cells #[.string ⟨#[]⟩, .string ⟨#[]⟩, .bool false] 50)) w19.heap.size ⟨⟨#[]⟩, ⟨#[]⟩, false⟩ from heap_alloc_new w19 _)
                  have HB20 := Lib.hid ((HW18.out.below.trans (hb.mono HW18.out.below.size)))
                  have HBW := Lib.hid hb
                  clear hb hb0 t0 t1
                  go_upto_region 21 with fail
                  generalize w19.heap.size = q10 at HG20 ⊢
                  generalize w19.alloc (.cells #[.string ⟨#[]⟩, .string ⟨#[]⟩, .bool false] 50) = w20 at HC20 HG20 HB20 HBW ⊢
                  have HD20 := Lib.hid (show OrdCls w1 q5 q9 q10 mx1 ot2 ct2 n2 T2 gA (nT + 1) cc2 (⟨fa, fb, false⟩ :: T) ⟨fa, fb, false⟩ ⟨⟨#[]⟩, ⟨#[]⟩, false⟩ w20 from ⟨HC20.out.row, HC20.out.r9, HG20.out, HC20.out.fl, HC20.out.fa, HC20.out.oT, HC20.out.oA, HC20.out.below⟩)
                  refine class_region (C := OrdCls w1 q5 q9 q10 mx1 ot2 ct2 n2 T2 gA (nT + 1) cc2 (⟨fa, fb, false⟩ :: T) ⟨fa, fb, false⟩ ⟨⟨#[]⟩, ⟨#[]⟩, false⟩) (by kernel_rfl) (by kernel_rfl) HD20.out.drew ?_
                  repeat
                    with_reducible refine qrest_step ?_
                    intro K hK'
                    go_simp
                    first
                      | (with_reducible refine hK' _ ?_)
                      | (with_reducible refine QOp.mk ?_
                         apply Exists.intro
                         with_reducible refine ⟨?_, hK' _ ?_⟩
                         · intro W hW
                           have c70 := hW.row.c0
                           have c90 := hW.r9.c0
                           have c91 := hW.r9.c1
                           have c92 := hW.r9.c2
                           have d90 := hW.r10.c0
                           have d91 := hW.r10.c1
                           have d92 := hW.r10.c2
                           simp only at c90 c91 c92 d90 d91 d92
                           unfold QAt
                           go_simp
                           first
                             | (with_reducible rfl)
                             | (go_at_call 41; refine (HFS.out _).mono ?_; rintro e w' ⟨rfl, hb⟩; exact ⟨rfl, OrdCls.step hb hW⟩))
                    clear hK' K
                  with_reducible refine qrest_nil ?_
                  intro w21 hw21
                  have HW21 := Lib.hid hw21
                  clear hw21
                  have t1' := HW21.out.row.c1
                  have HCT := Lib.hid (show OwnF w21 w1.heap.size (.slice (some ⟨gA, 0, none⟩) n2 cc2) T2 from by
                    have h := HW21.out.oA
                    rw [show nT + 1 = (⟨fa, fb, false⟩ :: T : List Fld).length from by rw [List.length_cons, HLT.out]] at h
                    have h2 := OwnF.take h n2 (by rw [List.length_cons, HLT.out]; exact hn2)
                    rw [show ((⟨fa, fb, false⟩ :: T : List Fld)).take n2 = T2 from HTK.out.symm] at h2
                    exact h2)
                  have hkk : n2 ≤ k + 1 := by omega
                  go_wp2_with fail
                  go_roundw
                  case rel => exact ⟨mx1, ot2, some ⟨gA, 0, none⟩, ct2, cc2, n2, k + 1, T2, rfl, rfl, by go_num, by omega, hkk, ⟨HW21.out.row, HL2.out, HW21.out.oT, HCT.out, HAO.out.1, HLT2.out, HW21.out.below, HR.out.base⟩⟩
                  case measure => simp [intOf]; omega
        · obtain rfl : k = n := by omega
          have hkb : decide ((k : Int) < (k : Int)) = false := decide_eq_false (by omega)
          go_wp2_with fail
          refine (awake04_any _).mono ?_
          rintro e w4 ⟨rfl, hb⟩
          have HBE := Lib.hid (HR.out.below.trans (hb.mono HR.out.below.size))
          clear hb
          go_wp2_with fail
          go_ret
          exact ⟨rfl, HBE.out⟩
    · have hsb : decide ((30 : Int) < (ns : Int)) = true := decide_eq_true (by omega)
      go_wp2_with fail
      refine (awake04_any _).mono ?_
      rintro e w3 ⟨rfl, hb⟩
      have HB1 := Lib.hid hb
      clear hb
      go_wp2_with fail
      go_ret
      exact ⟨rfl, HB1.out⟩
#print axioms dyntabOrder_any
end Go.Proofs.Ytmnaljnkgaebkaa
