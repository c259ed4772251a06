/- FldE · FldG: joined by a program, for a claim has at most 60 files. -/
import Derived.Test.YteceinojmdgmeaaC22
import Derived.RegionTactic
import Derived.Laws.StructEq
/- Whether fields are the same: slices.Equal, SameFields. -/
namespace Go.Proofs.Yteceinojmdgmeaa
open Go.RowKit
set_option linter.unusedVariables false
set_option linter.unusedSimpArgs false

def eqF (f g : Fld) : Bool := (f.name.toList == g.name.toList) && ((f.value.toList == g.value.toList) && (f.never == g.never))
def sameL : List Fld → List Fld → Bool
  | [], [] => true
  | f :: l, g :: r => eqF f g && sameL l r
  | _, _ => false
theorem sameL_len : ∀ (a b : List Fld), sameL a b = true → a.length = b.length
  | [], [], _ => rfl
  | f :: l, g :: r, h => by
    simp only [sameL, Bool.and_eq_true] at h
    simp [sameL_len l r h.2]
  | [], g :: r, h => by simp [sameL] at h
  | f :: l, [], h => by simp [sameL] at h
theorem sameL_take : ∀ (a b : List Fld) (k : Nat) (ha : k < a.length) (hb : k < b.length), sameL (a.take (k + 1)) (b.take (k + 1)) = (sameL (a.take k) (b.take k) && eqF a[k] b[k])
  | f :: l, g :: r, 0, _, _ => by simp [sameL]
  | f :: l, g :: r, k + 1, ha, hb => by
    have := sameL_take l r k (by simpa using ha) (by simpa using hb)
    simp only [List.take_succ_cons, sameL, List.getElem_cons_succ] at this ⊢
    rw [this, Bool.and_assoc]
theorem sameL_no : ∀ (a b : List Fld) (k : Nat) (ha : k < a.length) (hb : k < b.length), eqF a[k] b[k] = false → sameL a b = false
  | f :: l, g :: r, 0, _, _, h => by simp only [List.getElem_cons_zero] at h; simp [sameL, h]
  | f :: l, g :: r, k + 1, ha, hb, h => by
    have := sameL_no l r k (by simpa using ha) (by simpa using hb) (by simpa using h)
    simp [sameL, this]
set_option maxRecDepth 100000 in
set_option maxHeartbeats 1000000 in
theorem sameFields_any (oa ob : Option Addr) (n nb cap cap' : Nat) (L R : List Fld) (hn : L.length = n) (hnb : R.length = nb) (h100 : n ≤ 1000) (hb100 : nb ≤ 1000) (w : World) (hf : FieldsN w oa L) (hg : FieldsN w ob R) :
    Calls Try.prog 33 #[.slice oa n cap, .slice ob nb cap'] w fun e w' => e = .returned (.bool (sameL L R)) ∧ Below w.heap.size w w' := by
  have HN := Lib.hid hn
  have HM := Lib.hid hnb
  have HF := Lib.hid hf
  have HG := Lib.hid hg
  clear hn hnb hf hg
  by_cases hnm : n = nb
  · subst hnm
    go_enter Try.func33, Try.ntmps33
    go_wp2_with fail
    go_loopw [5] (fun i wr => ∃ k : Nat, k ≤ n ∧ i = .int .i64 k ∧ sameL (L.take k) (R.take k) = true ∧ Below w.heap.size w wr) (fun i _ => n - (intOf i).toNat)
    case atStart => exact ⟨0, Nat.zero_le _, rfl, rfl, Below.refl _ _⟩
    case round =>
      obtain ⟨k, hk, rfl, hsm, bk⟩ := hrel
      have HA := Lib.hid hsm
      have BK := Lib.hid bk
      clear hsm bk
      by_cases hlt : k < n
      · have hki : (k : Int) < (n : Int) := by omega
        have hkL : k < L.length := by rw [HN.out]; exact hlt
        have hkR : k < R.length := by rw [HM.out]; exact hlt
        obtain ⟨b, o, rfl, g1, g2, g3⟩ := (HF.out.below BK.out) k L[k] (List.getElem?_eq_getElem hkL)
        obtain ⟨b2, o2, rfl, q1, q2, q3⟩ := (HG.out.below BK.out) k R[k] (List.getElem?_eq_getElem hkR)
        have HTK := Lib.hid (sameL_take L R k hkL hkR)
        have HNO := Lib.hid (sameL_no L R k hkL hkR)
        generalize L[k] = f at g1 g2 g3 HTK HNO
        generalize R[k] = g at q1 q2 q3 HTK HNO
        obtain ⟨nm, vl, nv⟩ := f
        obtain ⟨nm2, vl2, nv2⟩ := g
        simp only [eqF] at g1 g2 g3 q1 q2 q3 HTK HNO
        cases h1 : (nm.toList == nm2.toList)
        · have HX := Lib.hid (HNO.out (by rw [h1]; rfl))
          go_wp2_with fail
          go_region
          go_wp2_with fail
          refine bodyPost_ret (v := .bool false) (by simp [results, Try.results33, go_sem]) rfl ⟨by rw [HX.out], BK.out.drew⟩
        · cases h2 : (vl.toList == vl2.toList)
          · have HX := Lib.hid (HNO.out (by rw [h1, h2]; rfl))
            go_wp2_with fail
            go_region
            go_wp2_with fail
            refine bodyPost_ret (v := .bool false) (by simp [results, Try.results33, go_sem]) rfl ⟨by rw [HX.out], BK.out.drew⟩
          · by_cases h3 : nv = nv2
            · subst h3
              have HTR := Lib.hid (show sameL (L.take (k + 1)) (R.take (k + 1)) = true from by rw [HTK.out, HA.out, h1, h2]; simp)
              clear HNO
              go_wp2_with fail
              go_region
              go_wp2_with fail
              go_roundw
              case rel => exact ⟨k + 1, by omega, by go_num, HTR.out, BK.out.drew⟩
              case measure => simp [intOf]; omega
            · have h3b : (nv == nv2) = false := by simpa using h3
              have HX := Lib.hid (HNO.out (by rw [h1, h2, h3b]; rfl))
              clear h3
              go_wp2_with fail
              go_region
              go_wp2_with fail
              refine bodyPost_ret (v := .bool false) (by simp [results, Try.results33, go_sem]) rfl ⟨by rw [HX.out], BK.out.drew⟩
      · obtain rfl : k = n := by omega
        have HX := Lib.hid (show sameL L R = true from by
          have := HA.out
          rwa [List.take_of_length_le (by rw [HN.out]; exact Nat.le_refl _), List.take_of_length_le (by rw [HM.out]; exact Nat.le_refl _)] at this)
        go_wp2_with fail
        refine bodyPost_ret (v := .bool true) (by simp [results, Try.results33, go_sem]) rfl ⟨by rw [HX.out], BK.out⟩
  · have hni : ((n : Int) != (nb : Int)) = true := by simp; omega
    have HX := Lib.hid (show sameL L R = false from by
      cases h : sameL L R
      · rfl
      · exact absurd (by rw [← HN.out, ← HM.out]; exact sameL_len L R h) hnm)
    clear hnm
    go_enter Try.func33, Try.ntmps33
    go_wp2_with fail
    refine bodyPost_ret (v := .bool false) (by simp [results, Try.results33, go_sem]) rfl ⟨by rw [HX.out], Below.refl _ _⟩
end Go.Proofs.Yteceinojmdgmeaa


/- slices.Equal at fields; whether two tables are one. -/
namespace Go.Proofs.Yteceinojmdgmeaa
open Go.RowKit
set_option linter.unusedVariables false
set_option linter.unusedSimpArgs false

set_option maxRecDepth 100000 in
set_option maxHeartbeats 1000000 in
theorem slicesEqual_any (oa ob : Option Addr) (n nb cap cap' : Nat) (L R : List Fld) (hn : L.length = n) (hnb : R.length = nb) (h100 : n ≤ 1000) (hb100 : nb ≤ 1000) (w : World) (hf : FieldsN w oa L) (hg : FieldsN w ob R) :
    Calls Try.prog 63 #[.slice oa n cap, .slice ob nb cap'] w fun e w' => e = .returned (.bool (sameL L R)) ∧ Below w.heap.size w w' := by
  have HN := Lib.hid hn
  have HM := Lib.hid hnb
  have HF := Lib.hid hf
  have HG := Lib.hid hg
  clear hn hnb hf hg
  by_cases hnm : n = nb
  · subst hnm
    go_enter Try.func63, Try.ntmps63
    go_wp2_with fail
    go_loopw [13] (fun i wr => ∃ k : Nat, k ≤ n ∧ i = .int .i64 k ∧ sameL (L.take k) (R.take k) = true ∧ Below w.heap.size w wr) (fun i _ => n - (intOf i).toNat)
    case atStart => exact ⟨0, Nat.zero_le _, rfl, rfl, Below.refl _ _⟩
    case round =>
      obtain ⟨k, hk, rfl, hsm, bk⟩ := hrel
      have HA := Lib.hid hsm
      have BK := Lib.hid bk
      clear hsm bk
      by_cases hlt : k < n
      · have hki : (k : Int) < (n : Int) := by omega
        have hkL : k < L.length := by rw [HN.out]; exact hlt
        have hkR : k < R.length := by rw [HM.out]; exact hlt
        obtain ⟨b, o, rfl, g1, g2, g3⟩ := (HF.out.below BK.out) k L[k] (List.getElem?_eq_getElem hkL)
        obtain ⟨b2, o2, rfl, q1, q2, q3⟩ := (HG.out.below BK.out) k R[k] (List.getElem?_eq_getElem hkR)
        have HTK := Lib.hid (sameL_take L R k hkL hkR)
        have HNO := Lib.hid (sameL_no L R k hkL hkR)
        generalize L[k] = f at g1 g2 g3 HTK HNO
        generalize R[k] = g at q1 q2 q3 HTK HNO
        obtain ⟨nm, vl, nv⟩ := f
        obtain ⟨nm2, vl2, nv2⟩ := g
        simp only [eqF] at g1 g2 g3 q1 q2 q3 HTK HNO
        cases h1 : (nm.toList == nm2.toList)
        · have HX := Lib.hid (HNO.out (by rw [h1]; rfl))
          go_wp2_with fail
          go_region
          go_wp2_with fail
          refine bodyPost_ret (v := .bool false) (by simp [results, Try.results63, go_sem]) rfl ⟨by rw [HX.out], BK.out.drew⟩
        · cases h2 : (vl.toList == vl2.toList)
          · have HX := Lib.hid (HNO.out (by rw [h1, h2]; rfl))
            go_wp2_with fail
            go_region
            go_wp2_with fail
            refine bodyPost_ret (v := .bool false) (by simp [results, Try.results63, go_sem]) rfl ⟨by rw [HX.out], BK.out.drew⟩
          · by_cases h3 : nv = nv2
            · subst h3
              have HTR := Lib.hid (show sameL (L.take (k + 1)) (R.take (k + 1)) = true from by rw [HTK.out, HA.out, h1, h2]; simp)
              clear HNO
              go_wp2_with fail
              go_region
              go_wp2_with fail
              go_roundw
              case rel => exact ⟨k + 1, by omega, by go_num, HTR.out, BK.out.drew⟩
              case measure => simp [intOf]; omega
            · have h3b : (nv == nv2) = false := by simpa using h3
              have HX := Lib.hid (HNO.out (by rw [h1, h2, h3b]; rfl))
              clear h3
              go_wp2_with fail
              go_region
              go_wp2_with fail
              refine bodyPost_ret (v := .bool false) (by simp [results, Try.results63, go_sem]) rfl ⟨by rw [HX.out], BK.out.drew⟩
      · obtain rfl : k = n := by omega
        have HX := Lib.hid (show sameL L R = true from by
          have := HA.out
          rwa [List.take_of_length_le (by rw [HN.out]; exact Nat.le_refl _), List.take_of_length_le (by rw [HM.out]; exact Nat.le_refl _)] at this)
        go_wp2_with fail
        refine bodyPost_ret (v := .bool true) (by simp [results, Try.results63, go_sem]) rfl ⟨by rw [HX.out], BK.out⟩
  · have hni : ((n : Int) != (nb : Int)) = true := by simp; omega
    have HX := Lib.hid (show sameL L R = false from by
      cases h : sameL L R
      · rfl
      · exact absurd (by rw [← HN.out, ← HM.out]; exact sameL_len L R h) hnm)
    clear hnm
    go_enter Try.func63, Try.ntmps63
    go_wp2_with fail
    refine bodyPost_ret (v := .bool false) (by simp [results, Try.results63, go_sem]) rfl ⟨by rw [HX.out], Below.refl _ _⟩
set_option maxRecDepth 100000 in
set_option maxHeartbeats 1000000 in
theorem same_any (m m2 : Int) (oa ob : Option Addr) (n nb cap cap' : Nat) (L R : List Fld) (hn : L.length = n) (hnb : R.length = nb) (h100 : n ≤ 1000) (hb100 : nb ≤ 1000) (w : World) (hf : FieldsN w oa L) (hg : FieldsN w ob R) :
    Calls Try.prog 37 #[.agg #[.int .i64 m, .slice oa n cap], .agg #[.int .i64 m2, .slice ob nb cap']] w fun e w' => e = .returned (.bool (decide (m = m2) && sameL L R)) ∧ Below w.heap.size w w' := by
  have B2 : ∀ o1 o2, Below w.heap.size w ((w.alloc o1).alloc o2) := fun o1 o2 => ((Below.refl _ _).alloc (Nat.le_refl _) _).alloc (by simp) _
  have HB2 := Lib.hid B2
  have HS := Lib.hid (fun W (hb : Below w.heap.size w W) => slicesEqual_any oa ob n nb cap cap' L R hn hnb h100 hb100 W (hf.below hb) (hg.below hb))
  clear B2 hn hnb hf hg
  by_cases hm : m = m2
  · have hmb : (m == m2) = true := by simpa using hm
    subst hm
    go_enter Try.func37, Try.ntmps37
    go_wp2_with fail
    refine (HS.out _ (HB2.out _ _)).mono ?_
    rintro e w1 ⟨rfl, hb⟩
    have HB := Lib.hid ((HB2.out _ _).trans (hb.mono (by simp; omega)))
    clear hb
    generalize hx : sameL L R = x
    have HX := Lib.hid hx
    clear hx
    go_wp2_with fail
    refine bodyPost_ret (v := .bool x) (by simp [results, Try.results37, go_sem]) rfl ⟨by rw [HX.out]; simp, HB.out⟩
  · have hmb : (m == m2) = false := by simpa using hm
    have HX := Lib.hid (show (decide (m = m2) && sameL L R) = false from by simp [hm])
    clear hm
    go_enter Try.func37, Try.ntmps37
    go_wp2_with fail
    refine bodyPost_ret (v := .bool false) (by simp [results, Try.results37, go_sem]) rfl ⟨by rw [HX.out], HB2.out _ _⟩
set_option maxRecDepth 100000 in
set_option maxHeartbeats 1000000 in
theorem refSame_any (m m2 : Int) (oa ob : Option Addr) (n nb cap cap' : Nat) (L R : List Fld) (hn : L.length = n) (hnb : R.length = nb) (h100 : n ≤ 1000) (hb100 : nb ≤ 1000) (w : World) (hf : FieldsN w oa L) (hg : FieldsN w ob R) :
    Calls Try.prog 34 #[.agg #[.int .i64 m, .slice oa n cap], .agg #[.int .i64 m2, .slice ob nb cap']] w fun e w' => e = .returned (.bool (decide (m = m2) && sameL L R)) ∧ Below w.heap.size w w' := by
  have B2 : ∀ o1 o2, Below w.heap.size w ((w.alloc o1).alloc o2) := fun o1 o2 => ((Below.refl _ _).alloc (Nat.le_refl _) _).alloc (by simp) _
  have HB2 := Lib.hid B2
  have HS := Lib.hid (fun W (hb : Below w.heap.size w W) => sameFields_any oa ob n nb cap cap' L R hn hnb h100 hb100 W (hf.below hb) (hg.below hb))
  clear B2 hn hnb hf hg
  by_cases hm : m = m2
  · have hmb : (m == m2) = true := by simpa using hm
    subst hm
    go_enter Try.func34, Try.ntmps34
    go_wp2_with fail
    refine (HS.out _ (HB2.out _ _)).mono ?_
    rintro e w1 ⟨rfl, hb⟩
    have HB := Lib.hid ((HB2.out _ _).trans (hb.mono (by simp; omega)))
    clear hb
    generalize hx : sameL L R = x
    have HX := Lib.hid hx
    clear hx
    go_wp2_with fail
    refine bodyPost_ret (v := .bool x) (by simp [results, Try.results34, go_sem]) rfl ⟨by rw [HX.out]; simp, HB.out⟩
  · have hmb : (m == m2) = false := by simpa using hm
    have HX := Lib.hid (show (decide (m = m2) && sameL L R) = false from by simp [hm])
    clear hm
    go_enter Try.func34, Try.ntmps34
    go_wp2_with fail
    refine bodyPost_ret (v := .bool false) (by simp [results, Try.results34, go_sem]) rfl ⟨by rw [HX.out], HB2.out _ _⟩
end Go.Proofs.Yteceinojmdgmeaa

