/- The statement HdecBlocks: the walk. -/
import Derived.Test.YteceinojmdgmeaaGreatC32
import Derived.Test.YteceinojmdgmeaaGreatC51
import Derived.Test.YteceinojmdgmeaaGreatC31
import Derived.Test.YteceinojmdgmeaaGreatC01
import Derived.Deep.RegionHeld
namespace Go.Proofs.YteceinojmdgmeaaGreat
open Go.RowKit
set_option linter.unusedVariables false
set_option linter.unusedSimpArgs false

theorem sameL_self : ∀ L : List Fld, sameL L L = true
  | [] => rfl
  | f :: l => by unfold sameL; rw [sameL_self l]; simp [eqF]
theorem hSt_grow (mx cp : Int) (L : List Fld) (x : Itm) : (hSt mx cp L x).2.1.length ≤ L.length + 1 := by
  unfold hSt
  split
  · split
    · simp
    · unfold resL
      simp only
      split
      · omega
      · split
        · omega
        · simp only [List.length_take]; omega
  · split
    · simp
    · split
      · simp
      · split
        · unfold addL
          simp only
          split
          · omega
          · split
            · simp only [List.length_cons, List.length_take]; omega
            · simp only [List.length_take]; omega
        · simp
theorem hRun_len (cp : Int) : ∀ (its : List Itm) (mx : Int) (L : List Fld) (bg : Bool) (out : List Fld), (hRun cp its mx L bg out).2.1.length ≤ L.length + its.length ∧ (hRun cp its mx L bg out).2.2.1.length ≤ out.length + its.length
  | [], mx, L, bg, out => by simp [hRun]
  | x :: t, mx, L, bg, out => by
    have hg := hSt_grow mx cp L x
    unfold hRun
    split
    · simp only [List.length_cons]; omega
    · split
      · simp only [List.length_cons]; omega
      · split
        · have := hRun_len cp t (hSt mx cp L x).1 (hSt mx cp L x).2.1 true (out ++ [(hSt mx cp L x).2.2.1])
          simp only [List.length_cons, List.length_append, List.length_nil] at this ⊢
          omega
        · have := hRun_len cp t (hSt mx cp L x).1 (hSt mx cp L x).2.1 bg out
          simp only [List.length_cons] at this ⊢
          omega
theorem hBlk_len (mx cp : Int) (L : List Fld) (bs : List Nat) : (hBlk mx cp L bs).2.1.length ≤ L.length + bs.length ∧ (hBlk mx cp L bs).2.2.1.length ≤ bs.length := by
  have h1 := hRun_len cp (allG bs).1 mx L false []
  have h2 := allG_len bs
  simp only [List.length_nil] at h1
  unfold hBlk
  split
  · simp
  · split
    · simp
    · split
      · simp
      · split
        · simp only [List.length_nil]; omega
        · simp only; omega
/-- The state, in a row of its own. -/
structure Vb (w : World) (mx cp : Int) (v : Value) (W : World) : Prop where
  st : SRow 26 W w.heap.size mx v cp
  below : Below w.heap.size w W
theorem Vb.step {w W W' : World} {mx cp : Int} {v : Value} (h : Vb w mx cp v W) (hb : Below W.heap.size W W') : Vb w mx cp v W' :=
  ⟨h.st.step hb, bs_hd h.below hb⟩
theorem Vb.new (w : World) (mx cp : Int) (v : Value) : Vb w mx cp v (w.alloc (.cells #[.int .i64 mx, v, .int .i64 cp] 26)) :=
  ⟨SRow.new _ _ _ _ _, below_new _⟩
/-- All that the last region looks at. -/
structure Vz (w : World) (mx cp : Int) (v : Value) (r1 : Int) (r2 r3 : List Fld) (o1 : Option Addr) (n1 c1 : Nat) (p1 : Option Addr) (o2 : Option Addr) (n2 c2 : Nat) (p2 : Option Addr) (g5 g9 : Nat) (W : World) : Prop where
  v : Vb w mx cp v W
  r5 : HRow W g5 r1 (.slice o1 n1 c1) cp
  r9 : SRow 26 W g9 r1 (.slice o2 n2 c2) cp
  f1 : FieldsN W o1 r2
  f2 : FieldsN W o2 r2
  f3 : FieldsN W p1 r3
  f4 : FieldsN W p2 r3
theorem Vz.step {w W W' : World} {mx cp r1 : Int} {v : Value} {r2 r3 : List Fld} {o1 p1 o2 p2 : Option Addr} {n1 c1 n2 c2 g5 g9 : Nat} (h : Vz w mx cp v r1 r2 r3 o1 n1 c1 p1 o2 n2 c2 p2 g5 g9 W) (hb : Below W.heap.size W W') : Vz w mx cp v r1 r2 r3 o1 n1 c1 p1 o2 n2 c2 p2 g5 g9 W' :=
  ⟨h.v.step hb, h.r5.step hb, h.r9.step hb, h.f1.below hb, h.f2.below hb, h.f3.below hb, h.f4.below hb⟩
theorem Vz.drew {w W : World} {mx cp r1 : Int} {v : Value} {r2 r3 : List Fld} {o1 p1 o2 p2 : Option Addr} {n1 c1 n2 c2 g5 g9 : Nat} (h : Vz w mx cp v r1 r2 r3 o1 n1 c1 p1 o2 n2 c2 p2 g5 g9 W) : Vz w mx cp v r1 r2 r3 o1 n1 c1 p1 o2 n2 c2 p2 g5 g9 W.drew :=
  ⟨⟨h.v.st, h.v.below.drew⟩, h.r5, h.r9, h.f1, h.f2, h.f3, h.f4⟩
set_option maxRecDepth 100000 in
set_option maxHeartbeats 8000000 in
theorem hdecBlocks_any (mx cp : Int) (oa : Option Addr) (n cap : Nat) (L : List Fld) (hn : L.length = n) (hnc : n ≤ cap) (ob : Option Addr) (m capb : Nat) (bs : List Nat) (hm : bs.length = m) (hmc : m ≤ capb) (w : World) (hf : FieldsN w oa L) (hby : BytesN w ob bs) (hb256 : ∀ i, i < bs.length → bs.getD i 0 < 256) :
    Calls Tryz.prog 3 #[.agg #[.int .i64 mx, .slice oa n cap, .int .i64 cp], .slice ob m capb] w fun e w' => e = .returned (.bool true) ∧ Below w.heap.size w w' := by
  have HH := Lib.hid (Vb.new w mx cp (.slice oa n cap))
  have HLI := Lib.hid (fun W (hW : Below w.heap.size w W) => light6_any mx cp oa n cap L hn W (hf.below hW))
  have HAW := Lib.hid (fun W => awake06_any W)
  by_cases hok : light L = true ∧ m ≤ 80
  · have hl := light.all hok.1
    have hlen := light.len hok.1
    have hn30 : n ≤ 1000 := by omega
    have HBK := Lib.hid (fun W (hW : Below w.heap.size w W) => hblock_any mx cp oa n cap L hn hnc hl hn30 ob m capb bs hm hmc (by omega) W (hf.below hW) (hby.below hW) hb256)
    have HDB := Lib.hid (fun W (hW : Below w.heap.size w W) => dblock_any mx cp oa n cap L hn hnc hl hn30 ob m capb bs hm hmc (by omega) W (hf.below hW) (hby.below hW) hb256)
    have HOW := Lib.hid (fun W => hown_any mx cp (.slice oa n cap) ⟨oa, n, cap, rfl⟩ W)
    have hq := hBlk_len mx cp L bs
    have HL2 := Lib.hid (show (hBlk mx cp L bs).2.1.length ≤ 1000 by omega)
    have HL3 := Lib.hid (show (hBlk mx cp L bs).2.2.1.length ≤ 1000 by omega)
    unfold BlkPost at HBK HDB
    generalize hBlk mx cp L bs = R at HBK HDB HL2 HL3 hq
    obtain ⟨r1, r2, r3, r4, r5⟩ := R
    dsimp only at HBK HDB HL2 HL3
    rw [hok.1] at HLI
    have q1 : decide ((80 : Int) < (m : Int)) = false := decide_eq_false (by omega)
    clear hok hl hlen hn30 hf hn hby hb256 hm hmc hnc hq
    go_enter Tryz.func3, Tryz.ntmps3
    go_upto_region 1 with fail
    generalize (w.alloc (.cells #[.int .i64 mx, .slice oa n cap, .int .i64 cp] 26)) = w1 at HH ⊢
    have c0 := HH.out.st.c0
    have c1 := HH.out.st.c1
    have c2 := HH.out.st.c2
    go_upto_region 3 with (first | (go_at_call 4; refine (HLI.out _ HH.out.below).mono ?_; rintro e w2 ⟨rfl, hb⟩; replace HH := Lib.hid (HH.out.step hb); clear hb; have c0 := HH.out.st.c0; have c1 := HH.out.st.c1; have c2 := HH.out.st.c2))
    go_upto_region 4 with (first
      | (go_at_call 7; refine (HOW.out _).mono ?_; rintro e w3 ⟨rfl, hb⟩; replace HH := Lib.hid (HH.out.step hb); clear hb)
      | (go_at_call 6; refine (HBK.out _ HH.out.below).mono ?_; rintro e w4 ⟨o1, n1, d1, p1, m1, e1, rfl, h1, h2, h3, h4, h5, h6, hb⟩; replace HH := Lib.hid (HH.out.step hb); have HV1 := Lib.hid (And.intro h1 h4); have HF1 := Lib.hid (And.intro h3 h6); clear h1 h2 h3 h4 h5 h6 hb))
    clear c0 c1 c2
    have H5 := Lib.hid (HRow.new w4 r1 cp (.slice o1 n1 d1))
    have HB5 := Lib.hid (below_new (W := w4) (.cells #[.int .i64 r1, .slice o1 n1 d1, .int .i64 cp] 32))
    replace HH := Lib.hid (HH.out.step HB5.out)
    replace HF1 := Lib.hid (And.intro (HF1.out.1.below HB5.out) (HF1.out.2.below HB5.out))
    clear HB5
    generalize w4.alloc (.cells #[.int .i64 r1, .slice o1 n1 d1, .int .i64 cp] 32) = w5 at H5 HH HF1 ⊢
    generalize w4.heap.size = g5 at H5 ⊢
    have c0 := HH.out.st.c0
    have c1 := HH.out.st.c1
    have c2 := HH.out.st.c2
    go_upto_region 5 with (first
      | (go_at_call 8; refine (HDB.out _ HH.out.below).mono ?_; rintro e w6 ⟨o2, n2, d2, p2, m2, e2, rfl, h1, h2, h3, h4, h5, h6, hb⟩; replace HH := Lib.hid (HH.out.step hb); replace H5 := Lib.hid (H5.out.step hb); replace HF1 := Lib.hid (And.intro (HF1.out.1.below hb) (HF1.out.2.below hb)); have HV2 := Lib.hid (And.intro h1 h4); have HF2 := Lib.hid (And.intro h3 h6); clear h1 h2 h3 h4 h5 h6 hb))
    clear c0 c1 c2
    have HC := Lib.hid (show Vz w mx cp (.slice oa n cap) r1 r2 r3 o1 n1 d1 p1 o2 n2 d2 p2 g5 w6.heap.size (w6.alloc (.cells #[.int .i64 r1, .slice o2 n2 d2, .int .i64 cp] 26)) from
      ⟨HH.out.step (below_new _), H5.out.step (below_new _), SRow.new _ _ _ _ _, HF1.out.1.below (below_new _), HF2.out.1.below (below_new _), HF1.out.2.below (below_new _), HF2.out.2.below (below_new _)⟩)
    clear HH H5 HF1 HF2 HBK HDB
    generalize w6.alloc (.cells #[.int .i64 r1, .slice o2 n2 d2, .int .i64 cp] 26) = w7 at HC ⊢
    generalize w6.heap.size = g9 at HC ⊢
    have HSA := Lib.hid (sameL_self r2)
    have HSB := Lib.hid (sameL_self r3)
    have HS1 := Lib.hid (show ∀ W, FieldsN W o1 r2 → FieldsN W o2 r2 → Calls Tryz.prog 9 #[.agg #[.int .i64 r1, .slice o1 n1 d1, .int .i64 cp], .agg #[.int .i64 r1, .slice o2 n2 d2, .int .i64 cp]] W fun e w' => e = .returned (.bool true) ∧ Below W.heap.size W w' from fun W h1 h2 => (dsame6_any r1 r1 cp cp o1 o2 n1 n2 d1 d2 r2 r2 HV1.out.1 HV2.out.1 (HV1.out.1 ▸ HL2.out) (HV2.out.1 ▸ HL2.out) W h1 h2).mono (by rintro e w' ⟨rfl, hb⟩; exact ⟨by simp [HSA.out], hb⟩))
    have HS2 := Lib.hid (show ∀ W, FieldsN W p1 r3 → FieldsN W p2 r3 → Calls Tryz.prog 11 #[.slice p1 m1 e1, .slice p2 m2 e2] W fun e w' => e = .returned (.bool true) ∧ Below W.heap.size W w' from fun W h1 h2 => (sameFields_any p1 p2 m1 m2 e1 e2 r3 r3 HV1.out.2 HV2.out.2 (HV1.out.2 ▸ HL3.out) (HV2.out.2 ▸ HL3.out) W h1 h2).mono (by rintro e w' ⟨rfl, hb⟩; exact ⟨by rw [HSB.out], hb⟩))
    refine class_region (C := Vz w mx cp (.slice oa n cap) r1 r2 r3 o1 n1 d1 p1 o2 n2 d2 p2 g5 g9) (by kernel_rfl) (by kernel_rfl) HC.out.drew ?_
    clear HC HLI
    repeat
      first
        | (with_reducible refine q_plainE rfl rfl ?_)
        | (with_reducible refine q_yesE 39 rfl (by kernel_rfl) (by kernel_rfl) rfl ?_)
      apply Exists.intro
      with_reducible refine ⟨?_, ?_⟩
      · intro W hW
        unfold QAt
        first
          | (go_simp; done)
          | (go_simp; with_reducible rfl)
          | (have a0 := hW.r5.c0
             have a1 := hW.r5.c1
             have a2 := hW.r5.c2
             have b0 := hW.r9.c0
             have b1 := hW.r9.c1
             have b2 := hW.r9.c2
             first | (go_simp; done) | go_simp
             first
               | done
               | (with_reducible rfl)
               | (go_at_call 10; refine (hback_any _ _ _ ⟨_, _, _, rfl⟩ _).mono ?_; rintro e w11 ⟨rfl, hb⟩; exact ⟨rfl, hW.step hb⟩)
               | (go_at_call 9; with_reducible refine (HS1.out _ hW.f1 hW.f2).mono ?_; rintro e w11 ⟨rfl, hb⟩; exact ⟨rfl, hW.step hb⟩)
               | (go_at_call 11; with_reducible refine (HS2.out _ hW.f3 hW.f4).mono ?_; rintro e w11 ⟨rfl, hb⟩; exact ⟨rfl, hW.step hb⟩)
               | (go_at_call 5; with_reducible refine (HAW.out _).mono ?_; rintro e w11 ⟨rfl, hb⟩; exact ⟨rfl, hW.step hb⟩))
      apply Exists.intro
      with_reducible refine ⟨?_, ?_⟩
      · simp only [Act.put, List.setIfInBounds_toArray, List.set_cons_zero, List.set_cons_succ]
        exact isAct_rfl _
    with_reducible refine qrest_nil ?_
    intro w' hw'
    go_wp2_with fail
    go_ret
    exact ⟨rfl, hw'.v.below⟩
  · have hor : light L = false ∨ (light L = true ∧ 80 < m) := by
      by_cases hl : light L = true
      · exact .inr ⟨hl, by
          by_cases h2 : 80 < m
          · exact h2
          · exact absurd ⟨hl, by omega⟩ hok⟩
      · exact .inl (by simpa using hl)
    clear hok hf hn hby hb256 hm hmc hnc
    rcases hor with h1 | ⟨h1, h2⟩
    · rw [h1] at HLI
      clear h1
      go_enter Tryz.func3, Tryz.ntmps3
      go_upto_region 1 with fail
      generalize (w.alloc (.cells #[.int .i64 mx, .slice oa n cap, .int .i64 cp] 26)) = w1 at HH ⊢
      have c0 := HH.out.st.c0
      have c1 := HH.out.st.c1
      have c2 := HH.out.st.c2
      go_wp2_with (first | (go_at_call 4; refine (HLI.out _ HH.out.below).mono ?_; rintro e w2 ⟨rfl, hb⟩; replace HH := Lib.hid (HH.out.step hb); clear hb) | (go_at_call 5; refine (HAW.out _).mono ?_; rintro e w3 ⟨rfl, hb⟩; replace HH := Lib.hid (HH.out.step hb); clear hb))
      go_ret
      exact ⟨rfl, HH.out.below⟩
    · rw [h1] at HLI
      have q1 : decide ((80 : Int) < (m : Int)) = true := decide_eq_true (by omega)
      clear h1 h2
      go_enter Tryz.func3, Tryz.ntmps3
      go_upto_region 1 with fail
      generalize (w.alloc (.cells #[.int .i64 mx, .slice oa n cap, .int .i64 cp] 26)) = w1 at HH ⊢
      have c0 := HH.out.st.c0
      have c1 := HH.out.st.c1
      have c2 := HH.out.st.c2
      go_wp2_with (first | (go_at_call 4; refine (HLI.out _ HH.out.below).mono ?_; rintro e w2 ⟨rfl, hb⟩; replace HH := Lib.hid (HH.out.step hb); clear hb) | (go_at_call 5; refine (HAW.out _).mono ?_; rintro e w3 ⟨rfl, hb⟩; replace HH := Lib.hid (HH.out.step hb); clear hb))
      go_ret
      exact ⟨rfl, HH.out.below⟩
end Go.Proofs.YteceinojmdgmeaaGreat

