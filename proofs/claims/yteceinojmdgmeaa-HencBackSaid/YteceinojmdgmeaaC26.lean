/- dyntab.Add. -/
import Derived.Test.YteceinojmdgmeaaC25
namespace Go.Proofs.Yteceinojmdgmeaa
open Go.RowKit
set_option linter.unusedVariables false
set_option linter.unusedSimpArgs false

theorem three0 (w : World) (o1 o2 o3 : Obj) : (((w.alloc o1).alloc o2).alloc o3).heap[w.heap.size]? = some o1 :=
  (((Below.refl ((w.alloc o1).alloc o2).heap.size ((w.alloc o1).alloc o2)).alloc (Nat.le_refl _) o3).block w.heap.size (by simp; omega)).trans (two0 w o1 o2)
theorem three1 (w : World) (o1 o2 o3 : Obj) : (((w.alloc o1).alloc o2).alloc o3).heap[w.heap.size + 1]? = some o2 :=
  (((Below.refl ((w.alloc o1).alloc o2).heap.size ((w.alloc o1).alloc o2)).alloc (Nat.le_refl _) o3).block (w.heap.size + 1) (by simp)).trans (two1 w o1 o2)
theorem three2 (w : World) (o1 o2 o3 : Obj) : (((w.alloc o1).alloc o2).alloc o3).heap[w.heap.size + 2]? = some o3 := by
  have h := two1 (w.alloc o1) o2 o3
  rwa [show (w.alloc o1).heap.size + 1 = w.heap.size + 2 from by simp] at h
theorem own_len (oa : Option Addr) (a b c : Nat) : (Value.slice oa a c).ownBlock = (Value.slice oa b c).ownBlock := by cases oa <;> rfl
/-- A field in a block. -/
def FRow (W : World) (q : Nat) (f : Fld) : Prop := W.heap[q]? = some (.cells #[.string f.name, .string f.value, .bool f.never] 25 (0, 0))
theorem FRow.c0 {W : World} {q : Nat} {f : Fld} (h : FRow W q f) : W.cell? ⟨q, 0, none⟩ = some (.string f.name) := cell_of_row _ _ _ _ _ _ h
theorem FRow.c1 {W : World} {q : Nat} {f : Fld} (h : FRow W q f) : W.cell? ⟨q, 1, none⟩ = some (.string f.value) := cell_of_row _ _ _ _ _ _ h
theorem FRow.c2 {W : World} {q : Nat} {f : Fld} (h : FRow W q f) : W.cell? ⟨q, 2, none⟩ = some (.bool f.never) := cell_of_row _ _ _ _ _ _ h
theorem FRow.z {W : World} {q : Nat} {f : Fld} (h : FRow W q f) (j : Nat) : W.frozen? ⟨q, j, none⟩ = false := frozen_of_row _ _ _ _ _ h
theorem FRow.lt {W : World} {q : Nat} {f : Fld} (h : FRow W q f) : q < W.heap.size := World.block_lt_of_cell? W ⟨q, 0, none⟩ h.c0
theorem FRow.step {W W' : World} {q : Nat} {f : Fld} (h : FRow W q f) (hb : Below W.heap.size W W') : FRow W' q f := (hb.block q h.lt).trans h
theorem FRow.alloc {W : World} {q : Nat} {f : Fld} (h : FRow W q f) (o : Obj) : FRow (W.alloc o) q f := h.step ((Below.refl _ _).alloc (Nat.le_refl _) o)
theorem FRow.set2 {W : World} {q : Nat} {f : Fld} (h : FRow W q f) (x : Bool) : FRow (W.setCell ⟨q, 2, none⟩ (.bool x)) q ⟨f.name, f.value, x⟩ := heap_setCell_same W q 2 _ _ _ h
theorem FRow.other {W : World} {q : Nat} {f : Fld} (h : FRow W q f) (p j : Nat) (hp : p ≠ q) (x : Value) : FRow (W.setCell ⟨p, j, none⟩ x) q f := (Below.heap_setCell _ _ _ _ (fun e => hp (by simpa using e.symm))).trans h

theorem OwnF.ne_table {w : World} {B : Nat} {v : Value} {L : List Fld} (h : OwnF w B v L) {q : Nat} {m : Int} {x : Value} (hr : TRow w q m x) : ∀ g, v.ownBlock = some g → g ≠ q := by
  intro g hg e
  subst e
  rcases h.2 with ⟨rfl, _⟩ | ⟨g', cap, cur, rfl, _, hh, _⟩
  · cases hg
  · obtain rfl : g' = g := by simpa [Value.ownBlock] using hg
    have h2 := hh.symm.trans hr
    simp at h2
/-- What Add makes. -/
def addL (mx : Int) (L : List Fld) (f : Fld) : List Fld :=
  if chkN mx L ≠ 0 then L else if (f.sz : Int) ≤ mx then ⟨f.name, f.value, false⟩ :: L.take (fitN L (mx - f.sz) L.length) else L.take (fitN L (mx - f.sz) L.length)
def AddPost (mx : Int) (L : List Fld) (f : Fld) (w : World) (e : Ending) (w' : World) : Prop :=
  ∃ v, e = .returned (.agg #[.int .i64 mx, v]) ∧ OwnF w' w.heap.size v (addL mx L f) ∧ Below w.heap.size w w'
set_option maxRecDepth 100000 in
set_option maxHeartbeats 2000000 in
theorem add_any (mx : Int) (oa : Option Addr) (n cap : Nat) (L : List Fld) (hn : L.length = n) (hl : ∀ f ∈ L, lightF f = true) (hn30 : n ≤ 1000) (f : Fld) (hlf : lightF f = true) (w : World) (hf : FieldsN w oa L) :
    Calls Try.prog 30 #[.agg #[.int .i64 mx, .slice oa n cap], .agg #[.string f.name, .string f.value, .bool f.never]] w (AddPost mx L f w) := by
  have HOW := Lib.hid (fun W hW => own_any mx oa n cap L hn (by omega) W hW)
  have HCK := Lib.hid (fun W hW => check_any mx oa n cap L hn hl hn30 W hW)
  have HN := Lib.hid hn
  have HLI := Lib.hid hl
  have HLF := Lib.hid hlf
  have HF := Lib.hid hf
  clear hn hf hl hlf
  have HB0 := Lib.hid ((((Below.refl w.heap.size w).alloc (Nat.le_refl _) (.cells #[.int .i64 mx, .slice oa n cap] 28)).alloc (by simp) (.cells #[.string f.name, .string f.value, .bool f.never] 25)).alloc (by simp; omega) (.cells #[.int .i64 0, .slice none 0 0] 28))
  have HT0 := Lib.hid (show TRow _ _ mx (.slice oa n cap) from three0 w (.cells #[.int .i64 mx, .slice oa n cap] 28) (.cells #[.string f.name, .string f.value, .bool f.never] 25) (.cells #[.int .i64 0, .slice none 0 0] 28))
  have HP0 := Lib.hid (show FRow _ _ f from three1 w (.cells #[.int .i64 mx, .slice oa n cap] 28) (.cells #[.string f.name, .string f.value, .bool f.never] 25) (.cells #[.int .i64 0, .slice none 0 0] 28))
  have HR0 := Lib.hid (show TRow _ _ 0 (.slice none 0 0) from three2 w (.cells #[.int .i64 mx, .slice oa n cap] 28) (.cells #[.string f.name, .string f.value, .bool f.never] 25) (.cells #[.int .i64 0, .slice none 0 0] 28))
  have t0 := HT0.out.c0
  have t1 := HT0.out.c1
  go_enter Try.func30, Try.ntmps30
  go_wp2_with fail
  refine (HOW.out _ (HF.out.below HB0.out)).mono ?_
  rintro e w1 ⟨v, rfl, ho, hb⟩
  obtain ⟨oa', cap', rfl, hff, hlc, hcm, hob⟩ := ho.form
  have HB1 := Lib.hid (HB0.out.trans (hb.mono HB0.out.size))
  have HT1 := Lib.hid (HT0.out.step hb)
  have HP1 := Lib.hid (HP0.out.step hb)
  have HR1 := Lib.hid (HR0.out.step hb)
  have HO1 := Lib.hid (ho.mono (show w.heap.size + 3 ≤ _ from by simp))
  have HG := Lib.hid (fun g hg => (ho.lt g hg).2)
  have HW1S := Lib.hid HB1.out.size
  clear ho hb hff hob HT0 HR0 HB0 HP0 t0 t1
  have HX1 := Lib.hid (TRow.new w1 mx (.slice oa' L.length cap'))
  have HB2 := Lib.hid (HB1.out.alloc HB1.out.size (.cells #[.int .i64 mx, .slice oa' L.length cap'] 28))
  have HT2 := Lib.hid (HT1.out.alloc (.cells #[.int .i64 mx, .slice oa' L.length cap'] 28))
  have HP2 := Lib.hid (HP1.out.alloc (.cells #[.int .i64 mx, .slice oa' L.length cap'] 28))
  have HR2 := Lib.hid (HR1.out.alloc (.cells #[.int .i64 mx, .slice oa' L.length cap'] 28))
  have HO2 := Lib.hid (HO1.out.alloc (.cells #[.int .i64 mx, .slice oa' L.length cap'] 28))
  have hc0 := HT2.out.c0
  have hc1 := HT2.out.c1
  go_wp2_with fail
  refine (HCK.out _ (HF.out.below HB2.out)).mono ?_
  rintro e w2 ⟨rfl, hb⟩
  have HB3 := Lib.hid (HB2.out.trans (hb.mono HB2.out.size))
  have HX3 := Lib.hid (HX1.out.step hb)
  have HT3 := Lib.hid (HT2.out.step hb)
  have HP3 := Lib.hid (HP2.out.step hb)
  have HR3 := Lib.hid (HR2.out.step hb)
  have HO3 := Lib.hid (HO2.out.step hb)
  have HQ := Lib.hid (show w.heap.size + 2 < w1.heap.size from HR1.out.lt)
  clear hb HB1 HT1 HR1 HO1 HX1 HB2 HT2 HR2 HO2 hc0 hc1 HP1 HP2
  have x0 := HX3.out.c0
  have x1 := HX3.out.c1
  have r0 := HR3.out.c0
  have r1 := HR3.out.c1
  have rz0 := HR3.out.z 0
  have rz1 := HR3.out.z 1
  by_cases h0 : chkN mx L = 0
  · have h0b : (chkN mx L == 0) = true := by simp [h0]
    have hmx : 0 ≤ mx ∧ mx ≤ 4096 := by
      refine Classical.byContradiction fun hc => ?_
      have : chkN mx L = 8 := if_pos (by omega)
      omega
    have hlf := HLF.out
    simp only [lightF, Bool.and_eq_true, decide_eq_true_eq] at hlf
    have HSI := Lib.hid (fun W => field_size f.name f.value f.never (by omega) (by omega) W)
    have hsz : (f.name.size : Int) + (f.value.size : Int) + 32 = (f.sz : Nat) := by unfold Fld.sz; omega
    have hsub : IntKind.i64.wrap (mx - (f.sz : Nat)) = mx - (f.sz : Nat) := IntWalk.i64_in _ (by unfold Fld.sz; omega)
    have HAL := Lib.hid (show addL mx L f = if (f.sz : Int) ≤ mx then ⟨f.name, f.value, false⟩ :: L.take (fitN L (mx - f.sz) L.length) else L.take (fitN L (mx - f.sz) L.length) from if_neg (fun h => h h0))
    have p0 := HP3.out.c0
    have p1 := HP3.out.c1
    have p2 := HP3.out.c2
    rw [hsz] at HSI
    generalize f.sz = Z at HSI hsub HAL
    rw [h0] at h0b ⊢
    clear h0 hlf hsz
    go_wp2_with fail
    refine (HSI.out _).mono ?_
    rintro e w3 ⟨rfl, hb⟩
    have HB4 := Lib.hid (HB3.out.trans (hb.mono HB3.out.size))
    have HX4 := Lib.hid (HX3.out.step hb)
    have HT4 := Lib.hid (HT3.out.step hb)
    have HP4 := Lib.hid (HP3.out.step hb)
    have HR4 := Lib.hid (HR3.out.step hb)
    have HO4 := Lib.hid (HO3.out.step hb)
    clear hb HB3 HX3 HT3 HP3 HR3 HO3 x0 x1 r0 r1 rz0 rz1 p0 p1 p2
    have x0 := HX4.out.c0
    have x1 := HX4.out.c1
    have t0 := HT4.out.c0
    obtain ⟨_, _, e4, hff4, _⟩ := HO4.out.form
    simp at e4
    obtain ⟨rfl, rfl⟩ := e4
    have HFF4 := Lib.hid hff4
    clear hff4
    have hk := fitN_le L (mx - (Z : Nat)) L.length
    have HTK := Lib.hid (fun W (hW : OwnF W (w.heap.size + 3) (.slice oa' L.length cap') L) => hW.take (fitN L (mx - (Z : Nat)) L.length) hk)
    have HLS := Lib.hid (fun W hW => less_any mx (mx - (Z : Nat)) oa' L.length cap' L rfl HLI.out (by have := HN.out; omega) hlc W hW)
    generalize hfk : fitN L (mx - (Z : Nat)) L.length = K at HAL HTK hk HLS
    clear hfk
    go_wp2_with fail
    refine (HLS.out _ HFF4.out).mono ?_
    rintro e w5 ⟨rfl, hb⟩
    have HB5 := Lib.hid (HB4.out.trans (hb.mono HB4.out.size))
    have HX5 := Lib.hid (HX4.out.step hb)
    have HT5 := Lib.hid (HT4.out.step hb)
    have HP5 := Lib.hid (HP4.out.step hb)
    have HR5 := Lib.hid (HR4.out.step hb)
    have HO5 := Lib.hid (HTK.out _ (HO4.out.step hb))
    clear hb HB4 HX4 HT4 HP4 HR4 HO4 x0 x1 t0 HFF4 HTK HLS
    have hkl : (L.take K).length = K := by rw [List.length_take]; omega
    have x0 := HX5.out.c0
    have x1 := HX5.out.c1
    have xz0 := HX5.out.z 0
    have xz1 := HX5.out.z 1
    have hg5 : ∀ g, (Value.slice oa' K cap').ownBlock = some g → g ≠ w1.heap.size := fun g hg => by
      have := HG.out g ((own_len oa' L.length K cap').trans hg)
      omega
    have HX6 := Lib.hid ((HX5.out.set0 mx).set1 (.slice oa' K cap'))
    have HT6 := Lib.hid ((HT5.out.other w1.heap.size 0 (by have := HQ.out; omega) (.int .i64 mx)).other w1.heap.size 1 (by have := HQ.out; omega) (.slice oa' K cap'))
    have HP6 := Lib.hid ((HP5.out.other w1.heap.size 0 (by have := HQ.out; omega) (.int .i64 mx)).other w1.heap.size 1 (by have := HQ.out; omega) (.slice oa' K cap'))
    have HR6 := Lib.hid ((HR5.out.other w1.heap.size 0 (by have := HQ.out; omega) (.int .i64 mx)).other w1.heap.size 1 (by have := HQ.out; omega) (.slice oa' K cap'))
    have HO6 := Lib.hid ((HO5.out.setne w1.heap.size 0 (.int .i64 mx) hg5).setne w1.heap.size 1 (.slice oa' K cap') hg5)
    have HB6 := Lib.hid ((HB5.out.setCell (show w.heap.size ≤ (⟨w1.heap.size, 0, none⟩ : Addr).block from HW1S.out) (.int .i64 mx)).setCell (show w.heap.size ≤ (⟨w1.heap.size, 1, none⟩ : Addr).block from HW1S.out) (.slice oa' K cap'))
    clear HX5 HT5 HP5 HR5 HO5 HB5
    have HBN := Lib.hid (show ∀ g, (Value.slice oa' K cap').ownBlock = some g → g < w.heap.size + 3 + (w1.heap.size) from fun g hg => by
      have := HG.out g ((own_len oa' L.length K cap').trans hg)
      omega)
    go_upto_region 7 with fail
    generalize (w5.setCell ⟨w1.heap.size, 0, none⟩ (.int .i64 mx)).setCell ⟨w1.heap.size, 1, none⟩ (.slice oa' K cap') = w6 at HX6 HT6 HP6 HR6 HO6 HB6 ⊢
    clear x0 x1 xz0 xz1
    have x0 := HX6.out.c0
    have x1 := HX6.out.c1
    have t0 := HT6.out.c0
    by_cases hz : (Z : Int) ≤ mx
    · have hzb : decide ((Z : Int) ≤ mx) = true := decide_eq_true hz
      have HL := Lib.hid (show addL mx L f = ⟨f.name, f.value, false⟩ :: L.take K from HAL.out.trans (if_pos hz))
      have p2 := HP6.out.c2
      have pz := HP6.out.z 2
      have HX7 := Lib.hid (HX6.out.other (w.heap.size + 1) 2 (by have := HQ.out; omega) (.bool false))
      have HR7 := Lib.hid (HR6.out.other (w.heap.size + 1) 2 (by omega) (.bool false))
      have HP7 := Lib.hid (HP6.out.set2 false)
      have HO7 := Lib.hid (HO6.out.set (w.heap.size + 1) 2 (.bool false) (by omega))
      have HB7 := Lib.hid (HB6.out.setCell (show w.heap.size ≤ (⟨w.heap.size + 1, 2, none⟩ : Addr).block from Nat.le_add_right _ _) (.bool false))
      have HG7 := Lib.hid (show w1.heap.size ≤ (w6.setCell ⟨w.heap.size + 1, 2, none⟩ (.bool false)).heap.size from Nat.le_of_lt HX7.out.lt)
      clear hz HX6 HT6 HP6 HR6 HO6 HB6
      go_upto_region 9 with fail
      generalize w6.setCell ⟨w.heap.size + 1, 2, none⟩ (.bool false) = w7 at HX7 HR7 HP7 HO7 HB7 HG7 ⊢
      clear x0 x1 t0 p2 pz
      have x1 := HX7.out.c1
      have p0 := HP7.out.c0
      have p1 := HP7.out.c1
      have p2 := HP7.out.c2
      simp only at p0 p1 p2
      have hbl : w.heap.size + 3 ≤ (w7.alloc (.cells #[.string f.name, .string f.value, .bool false] 25)).heap.size := by have := HR7.out.lt; simp; omega
      have hgv : ∀ g, (Value.slice oa' K cap').ownBlock = some g → w7.heap.size ≠ g := fun g hg => by
        have := HG.out g ((own_len oa' L.length K cap').trans hg)
        have := HG7.out
        omega
      have HKL := Lib.hid (show (L.take K).length ≤ 1000 from by have := HN.out; omega)
      have HBL := Lib.hid hbl
      have HGV := Lib.hid hgv
      clear hbl hgv hkl
      go_wp2_with fail
      refine (insert_any ⟨f.name, f.value, false⟩ (.slice oa' K cap') w7.heap.size 1 (w.heap.size + 3) (L.take K) _ (HO7.out.alloc _) HKL.out HBL.out HGV.out (heap_alloc_new w7 _)).mono ?_
      rintro e w8 ⟨v', rfl, ho, hb, hkeep⟩
      obtain ⟨ob, cap2, rfl, _, _⟩ := ho.form
      have hX8 : TRow w8 w1.heap.size mx (.slice oa' K cap') := (hkeep _ (HX7.out.alloc _).lt (fun e => (by
        have := HG.out w1.heap.size ((own_len oa' L.length K cap').trans e.symm)
        omega))).trans (HX7.out.alloc _)
      have hR8 : TRow w8 (w.heap.size + 2) 0 (.slice none 0 0) := (hb.block _ (by omega)).trans (HR7.out.alloc _)
      have HB8 := Lib.hid ((HB7.out.alloc HB7.out.size (.cells #[.string f.name, .string f.value, .bool false] 25)).trans (hb.mono (show w.heap.size ≤ w.heap.size + 3 from by omega)))
      have HO8 := Lib.hid ho
      clear hb ho hkeep HX7 HR7 HP7 HO7 HB7 x1 p0 p1 p2
      have x1 := hX8.c1
      have xz1 := hX8.z 1
      generalize hM : (⟨f.name, f.value, false⟩ :: L.take K : List Fld) = M at HO8 HL ⊢
      clear hM
      have HX9 := Lib.hid (hX8.set1 (.slice ob M.length cap2))
      have HR9 := Lib.hid (hR8.other w1.heap.size 1 (by have := HQ.out; omega) (.slice ob M.length cap2))
      have HO9 := Lib.hid (HO8.out.setne w1.heap.size 1 (.slice ob M.length cap2) (HO8.out.ne_table hX8))
      have HB9 := Lib.hid (HB8.out.setCell (show w.heap.size ≤ (⟨w1.heap.size, 1, none⟩ : Addr).block from HW1S.out) (.slice ob M.length cap2))
      clear hX8 hR8 HB8 HO8
      go_upto_region 10 with fail
      generalize w8.setCell ⟨w1.heap.size, 1, none⟩ (.slice ob M.length cap2) = w9 at HX9 HR9 HO9 HB9 ⊢
      clear x1 xz1
      have x0 := HX9.out.c0
      have x1 := HX9.out.c1
      have r0 := HR9.out.c0
      have r1 := HR9.out.c1
      have rz0 := HR9.out.z 0
      have rz1 := HR9.out.z 1
      have HBE := Lib.hid ((HB9.out.setCell (show w.heap.size ≤ (⟨w.heap.size + 2, 0, none⟩ : Addr).block from Nat.le_add_right _ _) (.int .i64 mx)).setCell (show w.heap.size ≤ (⟨w.heap.size + 2, 1, none⟩ : Addr).block from Nat.le_add_right _ _) (.slice ob M.length cap2))
      have HOE := Lib.hid ((((HO9.out.set (w.heap.size + 2) 0 (.int .i64 mx) (by omega)).set (w.heap.size + 2) 1 (.slice ob M.length cap2) (by omega))).mono (show w.heap.size ≤ w.heap.size + 3 from by omega))
      go_wp2_with fail
      refine bodyPost_ret (v := .agg #[.int .i64 mx, .slice ob M.length cap2]) (by simp [results, Try.results30, go_sem, r0, r1]) rfl ⟨_, rfl, by rw [HL.out]; exact HOE.out, HBE.out⟩
    · have hzb : decide ((Z : Int) ≤ mx) = false := decide_eq_false hz
      have HL := Lib.hid (show addL mx L f = L.take K from HAL.out.trans (if_neg hz))
      have r0 := HR6.out.c0
      have r1 := HR6.out.c1
      have rz0 := HR6.out.z 0
      have rz1 := HR6.out.z 1
      clear hz
      have HBE := Lib.hid ((HB6.out.setCell (show w.heap.size ≤ (⟨w.heap.size + 2, 0, none⟩ : Addr).block from Nat.le_add_right _ _) (.int .i64 mx)).setCell (show w.heap.size ≤ (⟨w.heap.size + 2, 1, none⟩ : Addr).block from Nat.le_add_right _ _) (.slice oa' K cap'))
      have HOE := Lib.hid ((((HO6.out.set (w.heap.size + 2) 0 (.int .i64 mx) (by omega)).set (w.heap.size + 2) 1 (.slice oa' K cap') (by omega))).mono (show w.heap.size ≤ w.heap.size + 3 from by omega))
      go_wp2_with fail
      refine bodyPost_ret (v := .agg #[.int .i64 mx, .slice oa' K cap']) (by simp [results, Try.results30, go_sem, r0, r1]) rfl ⟨_, rfl, by rw [HL.out]; exact HOE.out, HBE.out⟩
  · have h0b : (chkN mx L == 0) = false := by simpa using h0
    have HL := Lib.hid (show addL mx L f = L from if_pos h0)
    clear h0
    generalize chkN mx L = E at h0b ⊢
    have HBE := Lib.hid ((HB3.out.setCell (show w.heap.size ≤ (⟨w.heap.size + 2, 0, none⟩ : Addr).block from Nat.le_add_right _ _) (.int .i64 mx)).setCell (show w.heap.size ≤ (⟨w.heap.size + 2, 1, none⟩ : Addr).block from Nat.le_add_right _ _) (.slice oa' L.length cap'))
    have HOE := Lib.hid ((((HO3.out.set (w.heap.size + 2) 0 (.int .i64 mx) (by omega)).set (w.heap.size + 2) 1 (.slice oa' L.length cap') (by omega))).mono (show w.heap.size ≤ w.heap.size + 3 from by omega))
    go_wp2_with fail
    refine bodyPost_ret (v := .agg #[.int .i64 mx, .slice oa' L.length cap']) (by simp [results, Try.results30, go_sem, r0, r1]) rfl ⟨_, rfl, by rw [HL.out]; exact HOE.out, HBE.out⟩
end Go.Proofs.Yteceinojmdgmeaa

