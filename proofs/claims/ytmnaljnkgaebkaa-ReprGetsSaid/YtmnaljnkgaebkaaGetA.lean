/- ReprGets: the walk. -/
import Derived.Test.YtmnaljnkgaebkaaDocJ
import Derived.Test.YtmnaljnkgaebkaaRepN
import Derived.Lib.SlBytesRowKit
namespace Go.Proofs.Ytmnaljnkgaebkaa
open Go.RowKit
set_option linter.unusedVariables false
set_option linter.unusedSimpArgs false

theorem bytesN_in {W : World} {oa : Option Addr} {n : Nat} {xs : List Int} (hx : xs.length = n) (hB : Lib.BytesIn W oa n xs) (hr : ∀ x ∈ xs, 0 ≤ x ∧ x < 256) :
    (xs.map Int.toNat).length = n ∧ BytesN W oa (xs.map Int.toNat) ∧ ∀ i, i < (xs.map Int.toNat).length → (xs.map Int.toNat).getD i 0 < 256 := by
  have hl : (xs.map Int.toNat).length = n := by rw [List.length_map, hx]
  have hg : ∀ i, i < n → ∃ x : Int, xs[i]? = some x ∧ 0 ≤ x ∧ x < 256 ∧ (xs.map Int.toNat).getD i 0 = x.toNat ∧ xs.getD i 0 = x := fun i hi => by
    have hi' : i < xs.length := by omega
    have h := hr _ (List.getElem_mem hi')
    exact ⟨xs[i], List.getElem?_eq_getElem hi', h.1, h.2, by simp [List.getD_eq_getElem?_getD, List.getElem?_eq_getElem hi'], by simp [List.getD_eq_getElem?_getD, List.getElem?_eq_getElem hi']⟩
  refine ⟨hl, fun i hi => ?_, fun i hi => ?_⟩
  · rw [hl] at hi
    obtain ⟨b, o, rfl, hc⟩ := hB (by omega)
    obtain ⟨x, _, h1, h2, h3, h4⟩ := hg i hi
    refine ⟨_, rfl, ?_⟩
    rw [show (⟨b, o, none⟩ : Addr).add i = ⟨b, o + i, none⟩ from by unfold Addr.add; split <;> simp_all, hc i hi, h3, h4, Int.toNat_of_nonneg h1]
  · rw [hl] at hi
    obtain ⟨x, _, h1, h2, h3, _⟩ := hg i hi
    rw [h3]
    omega
set_option maxRecDepth 100000 in
set_option maxHeartbeats 4000000 in
theorem reprGets_any (oa : Option Addr) (n cap : Nat) (bs : List Nat) (hn : bs.length = n) (hnc : n ≤ cap) (w : World) (hby : BytesN w oa bs) (hb256 : ∀ i, i < bs.length → bs.getD i 0 < 256) :
    Calls Try.prog 11 #[.slice oa n cap] w fun e w' => e = .returned (.bool true) ∧ Below w.heap.size w w' := by
  have HA := Lib.hid (show ∀ W, Below w.heap.size w W → Calls Try.prog 42 #[] W fun e w' => e = .returned (.bool true) ∧ Below w.heap.size w w' from fun W h => (awake05_any W).mono (by rintro e w' ⟨rfl, h2⟩; exact ⟨rfl, h.trans (h2.mono h.size)⟩))
  by_cases h60 : 60 < n
  · have q1 : decide ((60 : Int) < (n : Int)) = true := decide_eq_true (by omega)
    go_enter Try.func11, Try.ntmps11
    go_wp2_with fail
    refine (HA.out _ (Below.refl _ _)).mono ?_
    rintro e w3 ⟨rfl, hb⟩
    go_wp2_with fail
    go_ret
    exact ⟨rfl, hb⟩
  have q1 : decide ((60 : Int) < (n : Int)) = false := decide_eq_false (by omega)
  have H1 := Lib.hid (fun W (hW : Below w.heap.size w W) => rget_any oa n cap bs hn hnc (by omega) W (hby.below hW) hb256)
  have H2 := Lib.hid (fun W (hW : Below w.heap.size w W) => dget_any oa n cap bs hn hnc (by omega) W (hby.below hW) hb256)
  have H3 := Lib.hid (fun W (hW : Below w.heap.size w W) => getText_any oa n cap bs hn hnc (by omega) W (hby.below hW) hb256)
  have H4 := Lib.hid (fun W (hW : Below w.heap.size w W) => dgetText_any oa n cap bs hn hnc (by omega) W (hby.below hW) hb256)
  have H5 := Lib.hid (fun W (hW : Below w.heap.size w W) => all_any oa n cap bs hn hnc (by omega) W (hby.below hW) hb256)
  have H6 := Lib.hid (fun W (hW : Below w.heap.size w W) => dall_any oa n cap bs hn hnc (by omega) W (hby.below hW) hb256)
  unfold GetPostI at H1 H2
  unfold TextGPost at H3 H4
  unfold AllPost at H5
  unfold DAllPost at H6
  clear hn hnc hby hb256
  generalize itemG bs = gi at H1 H2
  generalize textG bs = gt at H3 H4
  generalize allG bs = ga at H5 H6
  obtain ⟨⟨kd, ix, nm, vl⟩, k1, e1⟩ := gi
  obtain ⟨ts, k2, e2⟩ := gt
  obtain ⟨L, e3⟩ := ga
  simp only at H1 H2 H3 H4 H5 H6
  go_enter Try.func11, Try.ntmps11
  go_wp2_with fail
  refine (H1.out _ (Below.refl _ _)).mono ?_
  rintro e w1 ⟨rfl, hb⟩
  have HB1 := Lib.hid hb
  clear hb
  go_wp2_with fail
  have HX := Lib.hid (IRow.new w1 kd ix nm vl)
  have HXS := Lib.hid (show w1.heap.size < (w1.alloc (.cells #[.int .u8 (kd : Int), .int .i64 ix, .string nm, .string vl] 77)).heap.size from (IRow.new w1 kd ix nm vl).lt)
  have HBX := Lib.hid (HB1.out.alloc HB1.out.size (.cells #[.int .u8 (kd : Int), .int .i64 ix, .string nm, .string vl] 77))
  have hxs := HB1.out.size
  generalize w1.alloc (.cells #[.int .u8 (kd : Int), .int .i64 ix, .string nm, .string vl] 77) = w2 at HX HXS HBX ⊢
  generalize w1.heap.size = qx at HX HXS hxs ⊢
  clear HB1
  refine (H2.out _ HBX.out).mono ?_
  rintro e w3 ⟨rfl, hb⟩
  have HB3 := Lib.hid (HBX.out.trans (hb.mono HBX.out.size))
  have HX3 := Lib.hid (HX.out.step hb)
  clear hb HX HXS HBX
  go_wp2_with fail
  have HY := Lib.hid (KRow.new w3 kd ix nm vl)
  have HX4 := Lib.hid (HX3.out.alloc (.cells #[.int .u8 (kd : Int), .int .i64 ix, .string nm, .string vl] 74))
  have HB4 := Lib.hid (HB3.out.alloc HB3.out.size (.cells #[.int .u8 (kd : Int), .int .i64 ix, .string nm, .string vl] 74))
  generalize w3.alloc (.cells #[.int .u8 (kd : Int), .int .i64 ix, .string nm, .string vl] 74) = w4 at HY HX4 HB4 ⊢
  generalize w3.heap.size = qy at HY ⊢
  clear HB3 HX3
  refine (H3.out _ HB4.out).mono ?_
  rintro e w5 ⟨rfl, hb⟩
  have HB5 := Lib.hid (HB4.out.trans (hb.mono HB4.out.size))
  have HX5 := Lib.hid (HX4.out.step hb)
  have HY5 := Lib.hid (HY.out.step hb)
  clear hb HB4 HX4 HY
  go_wp2_with fail
  refine (H4.out _ HB5.out).mono ?_
  rintro e w6 ⟨rfl, hb⟩
  have HB6 := Lib.hid (HB5.out.trans (hb.mono HB5.out.size))
  have HX6 := Lib.hid (HX5.out.step hb)
  have HY6 := Lib.hid (HY5.out.step hb)
  clear hb HB5 HX5 HY5
  go_wp2_with fail
  refine (H5.out _ HB6.out).mono ?_
  rintro e w7 ⟨v7, rfl, ho, hb⟩
  have HB7 := Lib.hid (HB6.out.trans (hb.mono HB6.out.size))
  have HX7 := Lib.hid (HX6.out.step hb)
  have HY7 := Lib.hid (HY6.out.step hb)
  obtain ⟨oaL, capL, rfl, hil, hlc, hlm, _⟩ := ho.form
  have HIL := Lib.hid hil
  clear hb HB6 HX6 HY6 hil ho
  go_wp2_with fail
  refine (H6.out _ HB7.out).mono ?_
  rintro e w8 ⟨v8, rfl, ho, hb⟩
  have HB8 := Lib.hid (HB7.out.trans (hb.mono HB7.out.size))
  have HX8 := Lib.hid (HX7.out.step hb)
  have HY8 := Lib.hid (HY7.out.step hb)
  have HIL8 := Lib.hid (HIL.out.below hb)
  obtain ⟨oaM, capM, rfl, him, hmc, hmm⟩ := ho.form
  have HIM := Lib.hid him
  clear hb HB7 HX7 HY7 him ho HIL
  obtain ⟨ln, hln⟩ : ∃ ln, L.length = ln := ⟨_, rfl⟩
  have HLN := Lib.hid hln
  rw [hln] at hlc hmc ⊢
  clear hln
  have hlm2 : ln ≤ 9223372036854775807 := by unfold maxLen at hlm; omega
  go_wp2_with fail
  go_loopw [19] (fun ii wr => ∃ j : Nat, ii = .int .i64 j ∧ j ≤ ln ∧ Below w8.heap.size w8 wr) (fun ii _ => ln - (intOf ii).toNat)
  case atStart => exact ⟨0, rfl, Nat.zero_le _, Below.refl _ _⟩
  case round =>
    obtain ⟨j, rfl, hj, hbl⟩ := hrel
    have HBL := Lib.hid hbl
    clear hbl
    by_cases hlt : j < ln
    · have hji : decide ((j : Int) < (ln : Int)) = true := decide_eq_true (by omega)
      have hji2 : (j : Int) < (ln : Int) := by omega
      obtain ⟨x, hx⟩ : ∃ x, L[j]? = some x := ⟨L[j]'(by rw [HLN.out]; exact hlt), List.getElem?_eq_getElem _⟩
      obtain ⟨bL, oL, rfl, c0, c1, c2, c3⟩ := (HIL8.out.below HBL.out.drew) j x hx
      obtain ⟨bM, oM, rfl, d0, d1, d2, d3⟩ := (HIM.out.below HBL.out.drew) j x hx
      have HBLD := Lib.hid HBL.out.drew
      obtain ⟨xk, xi, xn, xv⟩ := x
      simp only at c0 c1 c2 c3 d0 d1 d2 d3
      have hw1 : IntKind.i64.wrap ((j : Int) + 1) = (j : Int) + 1 := IntWalk.i64_in _ (by omega)
      go_upto_region 14 with fail
      go_region
      go_wp2_with fail
      go_roundw
      case rel => exact ⟨j + 1, by go_num, by omega, HBLD.out⟩
      case measure => simp [intOf]; omega
    · have hji : decide ((j : Int) < (ln : Int)) = false := decide_eq_false (by omega)
      have hji2 : ¬ ((j : Int) < (ln : Int)) := by omega
      have HBW := Lib.hid (HB8.out.trans (HBL.out.mono HB8.out.size))
      have HXW := Lib.hid (HX8.out.step HBL.out)
      have HYW := Lib.hid (HY8.out.step HBL.out)
      have HAW := Lib.hid (fun W => awake05_any W)
      clear HB8 HX8 HY8 HIL8 HIM HBL
      have x0 := HXW.out.c0
      have x1 := HXW.out.c1
      have x2 := HXW.out.c2
      have x3 := HXW.out.c3
      have y0 := HYW.out.c0
      have y1 := HYW.out.c1
      have y2 := HYW.out.c2
      have y3 := HYW.out.c3
      go_wp2_with fail
      refine (HA.out _ HBW.out).mono ?_
      rintro e w9 ⟨rfl, hb⟩
      go_wp2_with fail
      go_ret
      exact ⟨rfl, hb⟩
#print axioms reprGets_any
end Go.Proofs.Ytmnaljnkgaebkaa
