/- dyntab.Resize. -/
import Derived.Test.YteceinojmdgmeaaC24
namespace Go.Proofs.Yteceinojmdgmeaa
open Go.RowKit
set_option linter.unusedVariables false
set_option linter.unusedSimpArgs false

/-- A table in a block. -/
def TRow (W : World) (q : Nat) (m : Int) (v : Value) : Prop := W.heap[q]? = some (.cells #[.int .i64 m, v] 28 (0, 0))
theorem TRow.c0 {W : World} {q : Nat} {m : Int} {v : Value} (h : TRow W q m v) : W.cell? ⟨q, 0, none⟩ = some (.int .i64 m) := cell_of_row _ _ _ _ _ _ h
theorem TRow.c1 {W : World} {q : Nat} {m : Int} {v : Value} (h : TRow W q m v) : W.cell? ⟨q, 1, none⟩ = some v := cell_of_row _ _ _ _ _ _ h
theorem TRow.z {W : World} {q : Nat} {m : Int} {v : Value} (h : TRow W q m v) (j : Nat) : W.frozen? ⟨q, j, none⟩ = false := frozen_of_row _ _ _ _ _ h
theorem TRow.lt {W : World} {q : Nat} {m : Int} {v : Value} (h : TRow W q m v) : q < W.heap.size := World.block_lt_of_cell? W ⟨q, 0, none⟩ h.c0
theorem TRow.step {W W' : World} {q : Nat} {m : Int} {v : Value} (h : TRow W q m v) (hb : Below W.heap.size W W') : TRow W' q m v := (hb.block q h.lt).trans h
theorem TRow.alloc {W : World} {q : Nat} {m : Int} {v : Value} (h : TRow W q m v) (o : Obj) : TRow (W.alloc o) q m v := h.step ((Below.refl _ _).alloc (Nat.le_refl _) o)
theorem TRow.new (W : World) (m : Int) (v : Value) : TRow (W.alloc (.cells #[.int .i64 m, v] 28)) W.heap.size m v := heap_alloc_new W _
theorem TRow.set0 {W : World} {q : Nat} {m : Int} {v : Value} (h : TRow W q m v) (m' : Int) : TRow (W.setCell ⟨q, 0, none⟩ (.int .i64 m')) q m' v := heap_setCell_same W q 0 _ _ _ h
theorem TRow.set1 {W : World} {q : Nat} {m : Int} {v : Value} (h : TRow W q m v) (v' : Value) : TRow (W.setCell ⟨q, 1, none⟩ v') q m v' := heap_setCell_same W q 1 _ _ _ h
theorem TRow.other {W : World} {q : Nat} {m : Int} {v : Value} (h : TRow W q m v) (p j : Nat) (hp : p ≠ q) (x : Value) : TRow (W.setCell ⟨p, j, none⟩ x) q m v := (Below.heap_setCell _ _ _ _ (fun e => hp (by simpa using e.symm))).trans h
theorem OwnF.alloc {w : World} {B : Nat} {v : Value} {L : List Fld} (h : OwnF w B v L) (o : Obj) : OwnF (w.alloc o) B v L := World.ownsRow.alloc h o

theorem OwnF.setne {w : World} {B : Nat} {v : Value} {L : List Fld} (h : OwnF w B v L) (q a : Nat) (x : Value) (hq : ∀ g, v.ownBlock = some g → g ≠ q) : OwnF (w.setCell ⟨q, a, none⟩ x) B v L :=
  World.ownsRow.kept h (row := some q) ⟨rfl, rfl, rfl, by simp, fun k _ hk => Below.heap_setCell _ _ _ _ (fun e => hk (by simp [e]))⟩ (by
    cases hv : v.ownBlock with
    | none => exact .inl rfl
    | some g => exact .inr (fun e => hq g hv (by simpa using e)))
theorem light_take {L : List Fld} (hl : ∀ f ∈ L, lightF f = true) (k : Nat) : ∀ f ∈ L.take k, lightF f = true := fun f hf => hl f (List.mem_of_mem_take hf)
/-- What Resize makes: how much there may be, the fields, the error. -/
def resM (mx most : Int) (L : List Fld) : Int := if chkN mx L ≠ 0 then mx else if most < 0 ∨ 4096 < most then mx else most
def resL (mx most : Int) (L : List Fld) : List Fld := if chkN mx L ≠ 0 then L else if most < 0 ∨ 4096 < most then L else L.take (fitN L most L.length)
def resE (mx most : Int) (L : List Fld) : Int := if chkN mx L ≠ 0 then chkN mx L else if most < 0 ∨ 4096 < most then 8 else 0
def ResPost (mx most : Int) (L : List Fld) (w : World) (e : Ending) (w' : World) : Prop :=
  ∃ v, e = .returned (.tuple #[.agg #[.int .i64 (resM mx most L), v], .int .i64 (resE mx most L)]) ∧ OwnF w' w.heap.size v (resL mx most L) ∧ Below w.heap.size w w'
set_option maxRecDepth 100000 in
set_option maxHeartbeats 2000000 in
theorem resize_any (mx most : Int) (oa : Option Addr) (n cap : Nat) (L : List Fld) (hn : L.length = n) (hl : ∀ f ∈ L, lightF f = true) (hn30 : n ≤ 1000) (w : World) (hf : FieldsN w oa L) :
    Calls Try.prog 61 #[.agg #[.int .i64 mx, .slice oa n cap], .int .i64 most] w (ResPost mx most L w) := by
  have HOW := Lib.hid (fun W hW => own_any mx oa n cap L hn (by omega) W hW)
  have HCK := Lib.hid (fun W hW => check_any mx oa n cap L hn hl hn30 W hW)
  have HN := Lib.hid hn
  have HLI := Lib.hid hl
  have HF := Lib.hid hf
  clear hn hf hl
  have HB0 := Lib.hid (((Below.refl w.heap.size w).alloc (Nat.le_refl _) (.cells #[.int .i64 mx, .slice oa n cap] 28)).alloc (by simp) (.cells #[.int .i64 0, .slice none 0 0] 28))
  have HT0 := Lib.hid (show TRow _ _ mx (.slice oa n cap) from two0 w (.cells #[.int .i64 mx, .slice oa n cap] 28) (.cells #[.int .i64 0, .slice none 0 0] 28))
  have HR0 := Lib.hid (show TRow _ _ 0 (.slice none 0 0) from two1 w (.cells #[.int .i64 mx, .slice oa n cap] 28) (.cells #[.int .i64 0, .slice none 0 0] 28))
  go_enter Try.func61, Try.ntmps61
  go_wp2_with fail
  refine (HOW.out _ (HF.out.below HB0.out)).mono ?_
  rintro e w1 ⟨v, rfl, ho, hb⟩
  obtain ⟨oa', cap', rfl, hff, hlc, hcm, hob⟩ := ho.form
  have HB1 := Lib.hid (HB0.out.trans (hb.mono HB0.out.size))
  have HT1 := Lib.hid (HT0.out.step hb)
  have HR1 := Lib.hid (HR0.out.step hb)
  have HO1 := Lib.hid (ho.mono (show w.heap.size + 2 ≤ _ from by simp))
  have HG := Lib.hid (fun g hg => (ho.lt g hg).2)
  have HFF := Lib.hid hff
  have HW1S := Lib.hid HB1.out.size
  clear ho hb hff hob HT0 HR0 HB0
  have HX1 := Lib.hid (TRow.new w1 mx (.slice oa' L.length cap'))
  have HB2 := Lib.hid (HB1.out.alloc HB1.out.size (.cells #[.int .i64 mx, .slice oa' L.length cap'] 28))
  have HT2 := Lib.hid (HT1.out.alloc (.cells #[.int .i64 mx, .slice oa' L.length cap'] 28))
  have HR2 := Lib.hid (HR1.out.alloc (.cells #[.int .i64 mx, .slice oa' L.length cap'] 28))
  have HO2 := Lib.hid (HO1.out.alloc (.cells #[.int .i64 mx, .slice oa' L.length cap'] 28))
  have hc0 := HT2.out.c0
  have hc1 := HT2.out.c1
  go_wp2_with fail
  refine (HCK.out _ (HF.out.below HB2.out)).mono ?_
  rintro e w2 ⟨rfl, hb⟩
  have HB3 := Lib.hid (HB2.out.trans (hb.mono HB2.out.size))
  have HX3 := Lib.hid (HX1.out.step hb)
  have HR3 := Lib.hid (HR2.out.step hb)
  have HO3 := Lib.hid (HO2.out.step hb)
  have HFF3 := Lib.hid (HFF.out.below (((Below.refl w1.heap.size w1).alloc (Nat.le_refl _) (.cells #[.int .i64 mx, .slice oa' L.length cap'] 28)).trans (hb.mono (by simp))))
  have HQ := Lib.hid (show w1.heap.size ≠ w.heap.size + 1 from by have := HR1.out.lt; omega)
  clear hb HB1 HT1 HR1 HO1 HX1 HB2 HT2 HR2 HO2 hc0 hc1 HFF
  have x0 := HX3.out.c0
  have x1 := HX3.out.c1
  have xz0 := HX3.out.z 0
  have xz1 := HX3.out.z 1
  have r0 := HR3.out.c0
  have r1 := HR3.out.c1
  have rz0 := HR3.out.z 0
  have rz1 := HR3.out.z 1
  by_cases h0 : chkN mx L = 0
  · have h0b : (chkN mx L == 0) = true := by simp [h0]
    by_cases h1 : most < 0 ∨ 4096 < most
    · have HM := Lib.hid (show resM mx most L = mx from (if_neg (fun h => h h0)).trans (if_pos h1))
      have HE := Lib.hid (show resE mx most L = 8 from (if_neg (fun h => h h0)).trans (if_pos h1))
      have HL := Lib.hid (show resL mx most L = L from (if_neg (fun h => h h0)).trans (if_pos h1))
      have HI := Lib.hid (fun W => in_no most h1 W)
      clear h1
      rw [h0] at h0b ⊢
      clear h0
      go_wp2_with fail
      refine (HI.out _).mono ?_
      rintro e w3 ⟨rfl, hw⟩
      subst hw
      have HBE := Lib.hid ((HB3.out.setCell (show w.heap.size ≤ (⟨w.heap.size + 1, 0, none⟩ : Addr).block from Nat.le_succ _) (.int .i64 mx)).setCell (show w.heap.size ≤ (⟨w.heap.size + 1, 1, none⟩ : Addr).block from Nat.le_succ _) (.slice oa' L.length cap'))
      have HOE := Lib.hid ((((HO3.out.set (w.heap.size + 1) 0 (.int .i64 mx) (by omega)).set (w.heap.size + 1) 1 (.slice oa' L.length cap') (by omega))).mono (show w.heap.size ≤ w.heap.size + 2 from by omega))
      go_wp2_with fail
      refine bodyPost_ret (v := .tuple #[.agg #[.int .i64 mx, .slice oa' L.length cap'], .int .i64 8]) (by simp [results, Try.results61, go_sem, r0, r1]) rfl ⟨_, by rw [HM.out, HE.out], by rw [HL.out]; exact HOE.out, HBE.out⟩
    · have HM := Lib.hid (show resM mx most L = most from (if_neg (fun h => h h0)).trans (if_neg h1))
      have HE := Lib.hid (show resE mx most L = 0 from (if_neg (fun h => h h0)).trans (if_neg h1))
      have HL := Lib.hid (show resL mx most L = L.take (fitN L most L.length) from (if_neg (fun h => h h0)).trans (if_neg h1))
      have HI := Lib.hid (fun W => in_yes most (by omega) W)
      clear h1
      rw [h0] at h0b ⊢
      clear h0
      go_wp2_with fail
      refine (HI.out _).mono ?_
      rintro e w3 ⟨rfl, hw⟩
      subst hw
      have HB4 := Lib.hid (HB3.out.setCell (show w.heap.size ≤ (⟨w1.heap.size, 0, none⟩ : Addr).block from Nat.le_trans HW1S.out (Nat.le_refl _)) (.int .i64 most))
      have HX4 := Lib.hid (HX3.out.set0 most)
      have HR4 := Lib.hid (HR3.out.other w1.heap.size 0 HQ.out (.int .i64 most))
      have HO4 := Lib.hid (HO3.out.setne w1.heap.size 0 (.int .i64 most) (fun g hg e => by have := HG.out g hg; omega))
      clear x0 x1 xz0 xz1 r0 r1 rz0 rz1
      have x0 := HX4.out.c0
      have x1 := HX4.out.c1
      have xz0 := HX3.out.z 0
      have xc0 := HX3.out.c0
      obtain ⟨_, _, e4, hff4, _⟩ := HO4.out.form
      simp at e4
      obtain ⟨rfl, rfl⟩ := e4
      have HFF4 := Lib.hid hff4
      clear hff4
      have hk := fitN_le L most L.length
      have HTK := Lib.hid (fun W (hW : OwnF W (w.heap.size + 2) (.slice oa' L.length cap') L) => hW.take (fitN L most L.length) hk)
      generalize hfk : fitN L most L.length = K at HL HTK hk
      have HFK := Lib.hid hfk
      clear hfk
      go_wp2_with fail
      refine (less_any most most oa' L.length cap' L rfl HLI.out (by have := HN.out; omega) hlc _ HFF4.out).mono ?_
      rw [HFK.out]
      rintro e w5 ⟨rfl, hb⟩
      have HB5 := Lib.hid (HB4.out.trans (hb.mono HB4.out.size))
      have HR5 := Lib.hid (HR4.out.step hb)
      have HO5 := Lib.hid (HTK.out _ (HO4.out.step hb))
      have hkl : (L.take K).length = K := by rw [List.length_take]; omega
      clear hb x0 x1 xz0 xc0 HB4 HR4 HO4 HX4 HX3 HO3 HB3 HFF4 HTK
      have r0 := HR5.out.c0
      have r1 := HR5.out.c1
      have rz0 := HR5.out.z 0
      have rz1 := HR5.out.z 1
      have HBE := Lib.hid ((HB5.out.setCell (show w.heap.size ≤ (⟨w.heap.size + 1, 0, none⟩ : Addr).block from Nat.le_succ _) (.int .i64 most)).setCell (show w.heap.size ≤ (⟨w.heap.size + 1, 1, none⟩ : Addr).block from Nat.le_succ _) (.slice oa' K cap'))
      have HOE := Lib.hid ((((HO5.out.set (w.heap.size + 1) 0 (.int .i64 most) (by omega)).set (w.heap.size + 1) 1 (.slice oa' K cap') (by omega))).mono (show w.heap.size ≤ w.heap.size + 2 from by omega))
      go_wp2_with fail
      refine bodyPost_ret (v := .tuple #[.agg #[.int .i64 most, .slice oa' K cap'], .int .i64 0]) (by simp [results, Try.results61, go_sem, r0, r1]) rfl ⟨_, by rw [HM.out, HE.out], by rw [HL.out]; exact HOE.out, HBE.out⟩
  · have h0b : (chkN mx L == 0) = false := by simpa using h0
    have HM := Lib.hid (show resM mx most L = mx from if_pos h0)
    have HE := Lib.hid (show resE mx most L = chkN mx L from if_pos h0)
    have HL := Lib.hid (show resL mx most L = L from if_pos h0)
    clear h0
    generalize chkN mx L = E at h0b HE ⊢
    have HBE := Lib.hid ((HB3.out.setCell (show w.heap.size ≤ (⟨w.heap.size + 1, 0, none⟩ : Addr).block from Nat.le_succ _) (.int .i64 mx)).setCell (show w.heap.size ≤ (⟨w.heap.size + 1, 1, none⟩ : Addr).block from Nat.le_succ _) (.slice oa' L.length cap'))
    have HOE := Lib.hid ((((HO3.out.set (w.heap.size + 1) 0 (.int .i64 mx) (by omega)).set (w.heap.size + 1) 1 (.slice oa' L.length cap') (by omega))).mono (show w.heap.size ≤ w.heap.size + 2 from by omega))
    go_wp2_with fail
    refine bodyPost_ret (v := .tuple #[.agg #[.int .i64 mx, .slice oa' L.length cap'], .int .i64 E]) (by simp [results, Try.results61, go_sem, r0, r1]) rfl ⟨_, by rw [HM.out, HE.out], by rw [HL.out]; exact HOE.out, HBE.out⟩
end Go.Proofs.Yteceinojmdgmeaa

