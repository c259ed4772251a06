/- A field that is found stands at its place, and no place ahead has it: the walk. -/
import Derived.Test.YtmnaljnkgaebkaaFldY
namespace Go.Proofs.Ytmnaljnkgaebkaa
open Go.RowKit
set_option linter.unusedVariables false
set_option linter.unusedSimpArgs false

/-- What stays while the law goes from place to place. -/
structure PlRel (w : World) (m : Int) (oa : Option Addr) (n cap : Nat) (L : List Fld) (f : Fld) (W : World) : Prop where
  r0 : W.heap[w.heap.size]? = some (.cells #[.int .i64 m, .slice oa n cap] 46 (0, 0))
  r1 : FRow W (w.heap.size + 1) f
  r5 : TRow W (w.heap.size + 3) m (.slice oa n cap)
  flds : FieldsN W oa L
  below : Below w.heap.size w W
theorem PlRel.step {w : World} {m : Int} {oa : Option Addr} {n cap : Nat} {L : List Fld} {f : Fld} {W W' : World} (h : PlRel w m oa n cap L f W) (hb : Below W.heap.size W W') : PlRel w m oa n cap L f W' :=
  ⟨(hb.block _ (World.block_lt_of_cell? W ⟨w.heap.size, 0, none⟩ (cell_of_row _ _ _ _ _ _ h.r0))).trans h.r0, h.r1.step hb, h.r5.step hb, h.flds.below hb, h.below.trans (hb.mono h.below.size)⟩
theorem PlRel.a1 {w : World} {m : Int} {oa : Option Addr} {n cap : Nat} {L : List Fld} {f : Fld} {W : World} (h : PlRel w m oa n cap L f W) : W.cell? ⟨w.heap.size, 1, none⟩ = some (.slice oa n cap) := cell_of_row _ _ _ _ _ _ h.r0
theorem light_all {L : List Fld} (h : light L = true) : L.length ≤ 30 ∧ ∀ f ∈ L, lightF f = true := by
  unfold light at h
  rw [Bool.and_eq_true] at h
  exact ⟨of_decide_eq_true h.1, fun f hf => List.all_eq_true.1 h.2 f hf⟩
theorem FRow.fields {W : World} {q : Nat} {f : Fld} (h : FRow W q f) : FieldsN W (some ⟨q, 0, none⟩) [f] := by
  intro i g hg
  cases i with
  | zero =>
    obtain rfl : f = g := by simpa using hg
    exact ⟨q, 0, rfl, by simpa using h.c0, by simpa using h.c1, by simpa using h.c2⟩
  | succ i => simp at hg
theorem light_one {f : Fld} (h : light [f] = true) : lightF f = true := (light_all h).2 f (by simp)
theorem atF_g (L : List Fld) (k : Nat) (h1 : 1 ≤ k) (h2 : k ≤ 61 + L.length) : atF L (k : Int) = (gOf L (k - 1), true) := by
  unfold atF
  rw [if_neg (by omega)]
  by_cases h : k ≤ 61
  · rw [if_pos (by omega), gOf_st (by omega), show ((k : Int) - 1).toNat = k - 1 from by omega]
  · rw [if_neg (by omega)]
    have hl : k - 62 < L.length := by omega
    have e := gOf_dyn hl
    rw [show 61 + (k - 62) = k - 1 from by omega] at e
    rw [show ((k : Int) - 62).toNat = k - 62 from by omega, List.getElem?_eq_getElem hl, e]
theorem DFound.le {L : List Fld} {n v : ByteArray} {p : Nat} {x : Bool} (h : DFound L n v p x) : p ≤ 61 + L.length := by
  rcases h with ⟨rfl, k, hk, rfl, _⟩ | ⟨rfl, _, h2⟩
  · omega
  · exact h2.le
theorem DFound.pos {L : List Fld} {n v : ByteArray} {p : Nat} (h : DFound L n v p true) : 0 < p := by
  rcases h with ⟨_, k, hk, rfl, _⟩ | ⟨h, _⟩
  · omega
  · cases h
/-- How the field at a place looks beside the one that was sought. -/
theorem DFound.at {L : List Fld} {n v : ByteArray} {p : Nat} {x : Bool} (h : DFound L n v p x) (k : Nat) (h1 : 1 ≤ k) (h2 : k ≤ 61 + L.length) :
    ((x = true ∧ 0 < p) ∧ ((k < p ∧ ¬ ((gOf L (k - 1)).name = n ∧ (gOf L (k - 1)).value = v)) ∨ (k = p ∧ (gOf L (k - 1)).name = n ∧ (gOf L (k - 1)).value = v) ∨ p < k)) ∨
    (x = false ∧ ((p = 0 ∧ (gOf L (k - 1)).name ≠ n) ∨ (0 < p ∧ k < p ∧ (gOf L (k - 1)).name ≠ n) ∨ (0 < p ∧ k = p ∧ (gOf L (k - 1)).name = n ∧ (gOf L (k - 1)).value ≠ v) ∨ (0 < p ∧ p < k ∧ ¬ ((gOf L (k - 1)).name = n ∧ (gOf L (k - 1)).value = v)))) := by
  rcases h with ⟨rfl, q, hq, rfl, g1, g2, g3⟩ | ⟨rfl, g1, g2⟩
  · refine .inl ⟨⟨rfl, by omega⟩, ?_⟩
    rcases Nat.lt_trichotomy k (q + 1) with hlt | heq | hgt
    · exact .inl ⟨hlt, g3 (k - 1) (by omega)⟩
    · subst heq
      exact .inr (.inl ⟨rfl, g1, g2⟩)
    · exact .inr (.inr hgt)
  · refine .inr ⟨rfl, ?_⟩
    rcases g2 with ⟨rfl, g2⟩ | ⟨q, hq, rfl, g3, g4⟩
    · exact .inl ⟨rfl, g2 (k - 1) (by omega)⟩
    · rcases Nat.lt_trichotomy k (q + 1) with hlt | heq | hgt
      · exact .inr (.inl ⟨by omega, hlt, g4 (k - 1) (by omega)⟩)
      · subst heq
        exact .inr (.inr (.inl ⟨by omega, rfl, g3, fun e => g1 q (by omega) ⟨g3, e⟩⟩))
      · exact .inr (.inr (.inr ⟨by omega, hgt, g1 (k - 1) (by omega)⟩))

set_option maxRecDepth 100000 in
set_option maxHeartbeats 4000000 in
theorem dyntabPlaces_any (m : Int) (oa : Option Addr) (n cap : Nat) (L : List Fld) (hn : L.length = n) (fa fb : ByteArray) (fc : Bool) (w : World) (hf : FieldsN w oa L) :
    Calls Try.prog 9 #[.agg #[.int .i64 m, .slice oa n cap], .agg #[.string fa, .string fb, .bool fc]] w fun e w' => e = .returned (.bool true) ∧ Below w.heap.size w w' := by
  have HN := Lib.hid hn
  have HF := Lib.hid hf
  have HLI := Lib.hid (fun W hW => light_any oa n cap L hn W hW)
  clear hn hf
  have HB0 := Lib.hid (((Below.refl w.heap.size w).alloc (Nat.le_refl _) (.cells #[.int .i64 m, .slice oa n cap] 46)).alloc (by simp) (.cells #[.string fa, .string fb, .bool fc] 50))
  have HT0 := Lib.hid (two0 w (.cells #[.int .i64 m, .slice oa n cap] 46) (.cells #[.string fa, .string fb, .bool fc] 50))
  have HR0 := Lib.hid (show FRow _ _ ⟨fa, fb, fc⟩ from two1 w (.cells #[.int .i64 m, .slice oa n cap] 46) (.cells #[.string fa, .string fb, .bool fc] 50))
  go_enter Try.func9, Try.ntmps9
  go_wp2_with fail
  refine (HLI.out _ (HF.out.below HB0.out)).mono ?_
  rintro e w1 ⟨rfl, hw⟩
  subst hw
  cases hli : light L
  · go_wp2_with fail
    refine (awake04_any _).mono ?_
    rintro e w2 ⟨rfl, hb⟩
    have HB1 := Lib.hid (HB0.out.trans (hb.mono HB0.out.size))
    clear hb
    go_wp2_with fail
    go_ret
    exact ⟨rfl, HB1.out⟩
  · have HAL := Lib.hid (light_all hli)
    have HN30 := Lib.hid (show n ≤ 30 from by have := (light_all hli).1; rw [HN.out] at this; exact this)
    clear hli
    go_wp2_with fail
    have HX0 := Lib.hid (three0 w (.cells #[.int .i64 m, .slice oa n cap] 46) (.cells #[.string fa, .string fb, .bool fc] 50) (.cells #[.string fa, .string fb, .bool fc] 50))
    have HX1 := Lib.hid (show FRow _ _ ⟨fa, fb, fc⟩ from three1 w (.cells #[.int .i64 m, .slice oa n cap] 46) (.cells #[.string fa, .string fb, .bool fc] 50) (.cells #[.string fa, .string fb, .bool fc] 50))
    have HX2 := Lib.hid (show FRow _ _ ⟨fa, fb, fc⟩ from three2 w (.cells #[.int .i64 m, .slice oa n cap] 46) (.cells #[.string fa, .string fb, .bool fc] 50) (.cells #[.string fa, .string fb, .bool fc] 50))
    have HB1 := Lib.hid (HB0.out.alloc HB0.out.size (.cells #[.string fa, .string fb, .bool fc] 50))
    have HS1 := Lib.hid (show (((w.alloc (.cells #[.int .i64 m, .slice oa n cap] 46)).alloc (.cells #[.string fa, .string fb, .bool fc] 50)).alloc (.cells #[.string fa, .string fb, .bool fc] 50)).heap.size = w.heap.size + 3 from by simp)
    generalize (((w.alloc (.cells #[.int .i64 m, .slice oa n cap] 46)).alloc (.cells #[.string fa, .string fb, .bool fc] 50)).alloc (.cells #[.string fa, .string fb, .bool fc] 50)) = W1 at HX0 HX1 HX2 HB1 HS1 ⊢
    refine (light_any _ 1 1 [⟨fa, fb, fc⟩] rfl _ HX2.out.fields).mono ?_
    rintro e w1 ⟨rfl, hw⟩
    subst hw
    cases hlf : light [⟨fa, fb, fc⟩]
    · go_wp2_with fail
      refine (awake04_any _).mono ?_
      rintro e w2 ⟨rfl, hb⟩
      have HB2 := Lib.hid (HB1.out.trans (hb.mono HB1.out.size))
      clear hb
      go_wp2_with fail
      go_ret
      exact ⟨rfl, HB2.out⟩
    · clear hlf
      have x0 : w1.cell? ⟨w.heap.size, 0, none⟩ = some (.int .i64 m) := cell_of_row _ _ _ _ _ _ HX0.out
      have x1 : w1.cell? ⟨w.heap.size, 1, none⟩ = some (.slice oa n cap) := cell_of_row _ _ _ _ _ _ HX0.out
      have HP2 := Lib.hid (show PlRel w m oa n cap L ⟨fa, fb, fc⟩ (w1.alloc (.cells #[.int .i64 m, .slice oa n cap] 48)) from
        ⟨(((Below.refl _ _).alloc (Nat.le_refl _) _).block _ (World.block_lt_of_cell? w1 ⟨w.heap.size, 0, none⟩ x0)).trans HX0.out, HX1.out.alloc _, HS1.out ▸ TRow.new w1 m (.slice oa n cap), HF.out.below (HB1.out.alloc HB1.out.size _), HB1.out.alloc HB1.out.size _⟩)
      go_upto_region 4 with fail
      rw [HS1.out]
      generalize w1.alloc (.cells #[.int .i64 m, .slice oa n cap] 48) = w2 at HP2 ⊢
      clear x0 x1 HX0 HX1 HX2 HB1 HS1 HT0 HR0 HB0 HLI
      have f0 := HP2.out.r1.c0
      have f1 := HP2.out.r1.c1
      have t0 := HP2.out.r5.c0
      have t1 := HP2.out.r5.c1
      have n30 := HN30.out
      simp only at f0 f1
      go_wp2_with fail
      refine (dFind_any m oa n cap L HN.out (by omega) fa fb _ HP2.out.flds).mono ?_
      rintro e w3 ⟨p, x, hd, rfl, hb⟩
      have HP3 := Lib.hid (HP2.out.step hb)
      have HD := Lib.hid hd
      have hp61 : p ≤ 61 + n := by have := hd.le; rw [HN.out] at this; exact this
      clear hb hd HP2 f0 f1 t0 t1
      have a1 := HP3.out.a1
      have hw61 : IntKind.i64.wrap (61 + (n : Int)) = 61 + (n : Int) := IntWalk.i64_in _ (by omega)
      have hp0 : decide ((p : Int) < 0) = false := decide_eq_false (by omega)
      have hpn : decide (61 + (n : Int) < (p : Int)) = false := decide_eq_false (by omega)
      go_wp2_with fail
      go_loopw [8] (fun i wr => ∃ k : Nat, 1 ≤ k ∧ k ≤ 62 + n ∧ i = .int .i64 k ∧ PlRel w m oa n cap L ⟨fa, fb, fc⟩ wr) (fun i _ => 62 + n - (intOf i).toNat)
      case atStart => exact ⟨1, Nat.le_refl _, by omega, rfl, HP3.out⟩
      case round =>
        obtain ⟨k, hk1, hk2, rfl, hR⟩ := hrel
        have HR := Lib.hid hR
        clear a1
        have a1 := hR.a1
        have t0 := hR.r5.c0
        have t1 := hR.r5.c1
        clear hR
        by_cases hkn : k ≤ 61 + n
        · have hc : decide ((k : Int) ≤ 61 + (n : Int)) = true := decide_eq_true (by omega)
          have hwf : (Lit.int .i64 (k : Int)).wf = true := by
            have e1 : IntKind.i64.min = -9223372036854775808 := rfl
            have e2 : IntKind.i64.max = 9223372036854775807 := rfl
            simp [Lit.wf]
            omega
          have hag := atF_g L k hk1 (by rw [HN.out]; exact hkn)
          have HCS := Lib.hid (HD.out.at k hk1 (by rw [HN.out]; exact hkn))
          have hwk : IntKind.i64.wrap ((k : Int) + 1) = ((k + 1 : Nat) : Int) := IntWalk.i64_in _ (by omega)
          have HAT := Lib.hid (show ∀ W, FieldsN W oa L → Calls Try.prog 27 #[.agg #[.int .i64 m, .slice oa n cap], .int .i64 (k : Int)] W fun e w' => e = .returned (.tuple #[.agg #[.string (gOf L (k - 1)).name, .string (gOf L (k - 1)).value, .bool (gOf L (k - 1)).never], .bool true]) ∧ Below W.heap.size W w' from fun W hW =>
            (dAt_any m oa n cap L HN.out (k : Int) hwf W hW).mono (by
              rintro e w' ⟨rfl, hb⟩
              rw [hag]
              exact ⟨rfl, hb⟩))
          generalize gOf L (k - 1) = g at HAT HCS
          obtain ⟨ga, gb, gc⟩ := g
          simp only at HAT HCS
          clear hag hwf
          go_wp2_with fail
          refine (HAT.out _ HR.out.flds).mono ?_
          rintro e w4 ⟨rfl, hb0⟩
          have hb := hb0.alloc hb0.size (.cells #[.string ga, .string gb, .bool gc] 50)
          have HR4 := Lib.hid (HR.out.step hb)
          have HG4 := Lib.hid (show FRow (w4.alloc (.cells #[.string ga, .string gb, .bool gc] 50)) w4.heap.size ⟨ga, gb, gc⟩ from heap_alloc_new w4 _)
          clear hb hb0 a1 t0 t1 HR HAT
          go_upto_region 11 with fail
          generalize w4.heap.size = q9 at HG4 ⊢
          generalize w4.alloc (.cells #[.string ga, .string gb, .bool gc] 50) = w5 at HR4 HG4 ⊢
          simp only [List.append]
          have f0 := HR4.out.r1.c0
          have f1 := HR4.out.r1.c1
          have g0 := HG4.out.c0
          have g1 := HG4.out.c1
          simp only at f0 f1 g0 g1
          have a1 := HR4.out.a1
          rcases HCS.out with ⟨⟨rfl, hp⟩, (⟨c1, c2⟩ | ⟨c1, c2, c3⟩ | c1)⟩ | ⟨rfl, ⟨c1, c2⟩ | ⟨c0, c1, c2⟩ | ⟨c0, c1, c2, c3⟩ | ⟨c0, c1, c2⟩⟩
          · by_cases hn : ga = fa
            · have q1 : decide ((k : Int) < (p : Int)) = true := decide_eq_true (by omega)
              have q2 : ((k : Int) == (p : Int)) = false := by simp; omega
              have q3 : ((p : Int) == 0) = false := by simp; omega
              have hN : (ga.toList == fa.toList) = true := toList_eq hn
              have hV : (gb.toList == fb.toList) = false := toList_ne (fun e => c2 ⟨hn, e⟩)
              go_wp2_with fail
              go_roundw
              case rel => exact ⟨k + 1, by omega, by omega, by go_num, HR4.out⟩
              case measure => simp [intOf]; omega
            · have q1 : decide ((k : Int) < (p : Int)) = true := decide_eq_true (by omega)
              have q2 : ((k : Int) == (p : Int)) = false := by simp; omega
              have q3 : ((p : Int) == 0) = false := by simp; omega
              have hN : (ga.toList == fa.toList) = false := toList_ne hn
              go_wp2_with fail
              go_roundw
              case rel => exact ⟨k + 1, by omega, by omega, by go_num, HR4.out⟩
              case measure => simp [intOf]; omega
          · subst c1
            have q1 : decide ((k : Int) < (k : Int)) = false := decide_eq_false (by omega)
            have q2 : ((k : Int) == (k : Int)) = true := by simp
            have q3 : ((k : Int) == 0) = false := by simp; omega
            have hN : (ga.toList == fa.toList) = true := toList_eq c2
            have hV : (gb.toList == fb.toList) = true := toList_eq c3
            go_wp2_with fail
            go_roundw
            case rel => exact ⟨k + 1, by omega, by omega, by go_num, HR4.out⟩
            case measure => simp [intOf]; omega
          · have q1 : decide ((k : Int) < (p : Int)) = false := decide_eq_false (by omega)
            have q2 : ((k : Int) == (p : Int)) = false := by simp; omega
            have q3 : ((p : Int) == 0) = false := by simp; omega
            go_wp2_with fail
            go_roundw
            case rel => exact ⟨k + 1, by omega, by omega, by go_num, HR4.out⟩
            case measure => simp [intOf]; omega
          · subst c1
            have q1 : decide ((k : Int) < 0) = false := decide_eq_false (by omega)
            have q2 : ((k : Int) == 0) = false := by simp; omega
            have hN : (ga.toList == fa.toList) = false := toList_ne c2
            go_wp2_with fail
            go_roundw
            case rel => exact ⟨k + 1, by omega, by omega, by go_num, HR4.out⟩
            case measure => simp [intOf]; omega
          · have q1 : decide ((k : Int) < (p : Int)) = true := decide_eq_true (by omega)
            have q2 : ((k : Int) == (p : Int)) = false := by simp; omega
            have q3 : ((p : Int) == 0) = false := by simp; omega
            have hN : (ga.toList == fa.toList) = false := toList_ne c2
            go_wp2_with fail
            go_roundw
            case rel => exact ⟨k + 1, by omega, by omega, by go_num, HR4.out⟩
            case measure => simp [intOf]; omega
          · subst c1
            have q1 : decide ((k : Int) < (k : Int)) = false := decide_eq_false (by omega)
            have q2 : ((k : Int) == (k : Int)) = true := by simp
            have q3 : ((k : Int) == 0) = false := by simp; omega
            have hN : (ga.toList == fa.toList) = true := toList_eq c2
            have hV : (gb.toList == fb.toList) = false := toList_ne c3
            go_wp2_with fail
            go_roundw
            case rel => exact ⟨k + 1, by omega, by omega, by go_num, HR4.out⟩
            case measure => simp [intOf]; omega
          · by_cases hn : ga = fa
            · have q1 : decide ((k : Int) < (p : Int)) = false := decide_eq_false (by omega)
              have q2 : ((k : Int) == (p : Int)) = false := by simp; omega
              have q3 : ((p : Int) == 0) = false := by simp; omega
              have hN : (ga.toList == fa.toList) = true := toList_eq hn
              have hV : (gb.toList == fb.toList) = false := toList_ne (fun e => c2 ⟨hn, e⟩)
              go_wp2_with fail
              go_roundw
              case rel => exact ⟨k + 1, by omega, by omega, by go_num, HR4.out⟩
              case measure => simp [intOf]; omega
            · have q1 : decide ((k : Int) < (p : Int)) = false := decide_eq_false (by omega)
              have q2 : ((k : Int) == (p : Int)) = false := by simp; omega
              have q3 : ((p : Int) == 0) = false := by simp; omega
              have hN : (ga.toList == fa.toList) = false := toList_ne hn
              go_wp2_with fail
              go_roundw
              case rel => exact ⟨k + 1, by omega, by omega, by go_num, HR4.out⟩
              case measure => simp [intOf]; omega
        · obtain rfl : k = 62 + n := by omega
          have hc : decide (((62 + n : Nat) : Int) ≤ 61 + (n : Int)) = false := decide_eq_false (by omega)
          by_cases hpp : 0 < p
          · have hq : decide ((0 : Int) < (p : Int)) = true := decide_eq_true (by omega)
            go_wp2_with fail
            refine (awake04_any _).mono ?_
            rintro e w5 ⟨rfl, hb⟩
            have HBE := Lib.hid (HR.out.below.trans (hb.mono HR.out.below.size))
            clear hb
            go_wp2_with fail
            go_ret
            exact ⟨rfl, HBE.out⟩
          · have hq : decide ((0 : Int) < (p : Int)) = false := decide_eq_false (by omega)
            cases x with
            | true => exact absurd HD.out.pos hpp
            | false =>
              go_wp2_with fail
              refine (awake04_any _).mono ?_
              rintro e w5 ⟨rfl, hb⟩
              have HBE := Lib.hid (HR.out.below.trans (hb.mono HR.out.below.size))
              clear hb
              go_wp2_with fail
              go_ret
              exact ⟨rfl, HBE.out⟩
#print axioms dyntabPlaces_any
end Go.Proofs.Ytmnaljnkgaebkaa
