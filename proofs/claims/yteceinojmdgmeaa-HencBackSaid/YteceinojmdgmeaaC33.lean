/- hdec: step, an item that adds . -/
import Derived.Test.YteceinojmdgmeaaC30
import Derived.RegionTactic
import Derived.Deep.RegionHeld
import Derived.Test.YteceinojmdgmeaaC32
namespace Go.Proofs.Yteceinojmdgmeaa
open Go.RowKit
set_option linter.unusedVariables false
set_option linter.unusedSimpArgs false

/-- What the region that adds looks at, and the two rows that it stores. -/
structure SAdd (w : World) (mx cp : Int) (v : Value) (g : Nat) (f : Fld) (W : World) : Prop where
  st : HRow W w.heap.size mx v cp
  fr : FRow W g f
  rs : ∃ cs, W.heap[w.heap.size + 2]? = some (.cells cs 45 (0, 0)) ∧ cs.size = 3
  rf : ∃ cs, W.heap[w.heap.size + 3]? = some (.cells cs 25 (0, 0)) ∧ cs.size = 3
  below : Below w.heap.size w W
  lt : w.heap.size + 3 < W.heap.size
  gt : w.heap.size + 3 < g
theorem SAdd.step {w W W' : World} {mx cp : Int} {v : Value} {g : Nat} {f : Fld} (h : SAdd w mx cp v g f W) (hb : Below W.heap.size W W') : SAdd w mx cp v g f W' := by
  obtain ⟨h1, h2, ⟨cs, h3, h3'⟩, ⟨cs2, h4, h4'⟩, h5, h6, h7⟩ := h
  exact ⟨h1.step hb, h2.step hb, ⟨cs, (hb.block _ (by omega)).trans h3, h3'⟩, ⟨cs2, (hb.block _ h6).trans h4, h4'⟩, bs_hd h5 hb, Nat.lt_of_lt_of_le h6 hb.size, h7⟩
theorem SAdd.setRow {w W : World} {mx cp : Int} {v : Value} {g : Nat} {f : Fld} {ds : Array Value} {q : Nat} (hq : q = w.heap.size + 2 ∨ q = w.heap.size + 3) (hd : ds.size = 3) (h : SAdd w mx cp v g f W) : SAdd w mx cp v g f (W.setRow q ds) := by
  obtain ⟨h1, h2, ⟨cs, h3, h3'⟩, ⟨cs2, h4, h4'⟩, h5, h6, h7⟩ := h
  refine ⟨(setRow_other _ _ _ _ (by omega)).trans h1, (setRow_other _ _ _ _ (by omega)).trans h2, ?_, ?_, below_row h5 (by omega) _, by simpa [World.setRow] using h6, h7⟩
  · rcases hq with rfl | rfl
    · exact ⟨_, setRow_heap _ _ _ _ _ _ h3, hd⟩
    · exact ⟨cs, (setRow_other _ _ _ _ (by omega)).trans h3, h3'⟩
  · rcases hq with rfl | rfl
    · exact ⟨cs2, (setRow_other _ _ _ _ (by omega)).trans h4, h4'⟩
    · exact ⟨_, setRow_heap _ _ _ _ _ _ h4, hd⟩
set_option maxRecDepth 100000 in
set_option maxHeartbeats 4000000 in
theorem step_add (mx cp : Int) (oa : Option Addr) (n cap : Nat) (L : List Fld) (hn : L.length = n) (hnc : n ≤ cap) (hl : ∀ f ∈ L, lightF f = true) (hn30 : n ≤ 1000) (k : Nat) (hk : k < 256) (i : Int) (nm vl : ByteArray) (hi : (Lit.int .i64 i).wf = true) (hvl : vl.size ≤ 40000) (hna : (hNamed L ⟨k, i, nm, vl⟩).1.name.size ≤ 40000) (w : World) (hf : FieldsN w oa L) (h1 : k = 1) (ha4 : (hNamed L ⟨k, i, nm, vl⟩).2 = true) :
    Calls Try.prog 39 #[.agg #[.int .i64 mx, .slice oa n cap, .int .i64 cp], .agg #[.int .u8 (k : Int), .int .i64 i, .string nm, .string vl]] w (StepPost oa mx cp L ⟨k, i, nm, vl⟩ w) := by
  have HH := Lib.hid (Hd.new w mx cp (.slice oa n cap) k i nm vl)
  have HFW := Lib.hid (show ∀ W, Below w.heap.size w W → FieldsN W oa L from fun W hW => hf.below hW)
  have HRZ := Lib.hid (fun W (hW : Below w.heap.size w W) => resize_any mx i oa n cap L hn hl hn30 W (hf.below hW))
  have HNM := Lib.hid (fun W (hW : Below w.heap.size w W) => named_any mx cp oa n cap L hn k i nm vl hi W (hf.below hW))
  have HAD := Lib.hid (fun (f : Fld) (hlf : lightF f = true) W (hW : Below w.heap.size w W) => add_any mx oa n cap L hn hl hn30 f hlf W (hf.below hW))
  have HN := Lib.hid hn
  obtain ⟨R, hR⟩ : ∃ R, hSt mx cp L ⟨k, i, nm, vl⟩ = R := ⟨_, rfl⟩
  unfold StepPost
  rw [hR]
  have HS : Hid (R = if k = 4 then (if cp < i then (mx, L, zFl, false, 8) else (resM mx i L, resL mx i L, zFl, false, resE mx i L)) else if (hNamed L ⟨k, i, nm, vl⟩).2 = false then (mx, L, zFl, false, 6) else if k = 0 then (mx, L, (hNamed L ⟨k, i, nm, vl⟩).1, true, 0) else if k = 1 then (mx, addL mx L ⟨(hNamed L ⟨k, i, nm, vl⟩).1.name, vl, false⟩, ⟨(hNamed L ⟨k, i, nm, vl⟩).1.name, vl, false⟩, true, 0) else (mx, L, ⟨(hNamed L ⟨k, i, nm, vl⟩).1.name, vl, decide (k = 3)⟩, true, 0)) := Lib.hid hR.symm
  unfold NamedPost at HNM
  obtain ⟨⟨⟨a1, a2, a3⟩, a4⟩, hN⟩ : ∃ Q, hNamed L ⟨k, i, nm, vl⟩ = Q := ⟨_, rfl⟩
  rw [hN] at HNM HS hna ha4
  simp only at HNM HS hna ha4
  clear hR hN hf hn
  have h4 : ¬ k = 4 := by omega
  have H1 := Lib.hid h1
  clear h1
  · have q4 : ((k : Int) == 4) = false := beq_eq_false_iff_ne.2 (by omega)
    rw [if_neg h4] at HS
    subst ha4
    · rw [if_neg (by decide)] at HS
      go_enter Try.func39, Try.ntmps39
      go_upto_region 1 with fail
      change Hid (Hd w ((((w.alloc (.cells #[.int .i64 mx, .slice oa n cap, .int .i64 cp] 45)).alloc (.cells #[.int .u8 (k : Int), .int .i64 i, .string nm, .string vl] 49)).alloc (.cells #[.int .i64 0, .slice none 0 0, .int .i64 0] 45)).alloc (.cells #[.string ⟨#[]⟩, .string ⟨#[]⟩, .bool false] 25)) mx cp (.slice oa n cap) k i nm vl) at HH
      generalize ((((w.alloc (.cells #[.int .i64 mx, .slice oa n cap, .int .i64 cp] 45)).alloc (.cells #[.int .u8 (k : Int), .int .i64 i, .string nm, .string vl] 49)).alloc (.cells #[.int .i64 0, .slice none 0 0, .int .i64 0] 45)).alloc (.cells #[.string ⟨#[]⟩, .string ⟨#[]⟩, .bool false] 25)) = w1 at HH ⊢
      have c0 := HH.out.st.c0
      have c1 := HH.out.st.c1
      have c2 := HH.out.st.c2
      have x0 := HH.out.it.c0
      have x1 := HH.out.it.c1
      have x2 := HH.out.it.c2
      have x3 := HH.out.it.c3
      go_upto_region 7 with (first | (go_at_call 65; refine (HNM.out _ HH.out.below).mono ?_; rintro e w2 ⟨rfl, hb⟩; replace HH := Lib.hid (HH.out.step hb); clear hb))
      have HFR := Lib.hid (show FRow (w2.alloc (.cells #[.string a1, .string a2, .bool a3] 25)) w2.heap.size ⟨a1, a2, a3⟩ from heap_alloc_new w2 _)
      have HGT := Lib.hid HH.out.lt
      replace HH := Lib.hid (HH.out.step ((Below.refl _ w2).alloc (Nat.le_refl _) (.cells #[.string a1, .string a2, .bool a3] 25)))
      generalize w2.alloc (.cells #[.string a1, .string a2, .bool a3] 25) = w3 at HH HFR ⊢
      generalize w2.heap.size = g at HFR HGT ⊢
      clear c0 c1 c2 x0 x1 x2 x3
      have c0 := HH.out.st.c0
      have c1 := HH.out.st.c1
      have c2 := HH.out.st.c2
      have x0 := HH.out.it.c0
      have x3 := HH.out.it.c3
      have y0 := HFR.out.c0
      have y1 := HFR.out.c1
      have y2 := HFR.out.c2
      have s0 : w3.cell? ⟨w.heap.size + 1 + 1, 0, none⟩ = some (.int .i64 0) := cell_of_row _ _ 0 _ _ _ HH.out.rs
      have s1 : w3.cell? ⟨w.heap.size + 1 + 1, 1, none⟩ = some (.slice none 0 0) := cell_of_row _ _ 1 _ _ _ HH.out.rs
      have s2 : w3.cell? ⟨w.heap.size + 1 + 1, 2, none⟩ = some (.int .i64 0) := cell_of_row _ _ 2 _ _ _ HH.out.rs
      have t0 : w3.cell? ⟨w.heap.size + 1 + 1 + 1, 0, none⟩ = some (.string ⟨#[]⟩) := cell_of_row _ _ 0 _ _ _ HH.out.rf
      have t1 : w3.cell? ⟨w.heap.size + 1 + 1 + 1, 1, none⟩ = some (.string ⟨#[]⟩) := cell_of_row _ _ 1 _ _ _ HH.out.rf
      have t2 : w3.cell? ⟨w.heap.size + 1 + 1 + 1, 2, none⟩ = some (.bool false) := cell_of_row _ _ 2 _ _ _ HH.out.rf
      have sz0 : w3.frozen? ⟨w.heap.size + 1 + 1, 0, none⟩ = false := frozen_of_row _ _ 0 _ _ HH.out.rs
      have sz1 : w3.frozen? ⟨w.heap.size + 1 + 1, 1, none⟩ = false := frozen_of_row _ _ 1 _ _ HH.out.rs
      have sz2 : w3.frozen? ⟨w.heap.size + 1 + 1, 2, none⟩ = false := frozen_of_row _ _ 2 _ _ HH.out.rs
      have tz0 : w3.frozen? ⟨w.heap.size + 1 + 1 + 1, 0, none⟩ = false := frozen_of_row _ _ 0 _ _ HH.out.rf
      have tz1 : w3.frozen? ⟨w.heap.size + 1 + 1 + 1, 1, none⟩ = false := frozen_of_row _ _ 1 _ _ HH.out.rf
      have tz2 : w3.frozen? ⟨w.heap.size + 1 + 1 + 1, 2, none⟩ = false := frozen_of_row _ _ 2 _ _ HH.out.rf
      have n1 : ¬ g = w.heap.size + 1 + 1 := by have := HGT.out; omega
      have n2 : ¬ w.heap.size + 1 + 1 = g := by have := HGT.out; omega
      have n3 : ¬ g = w.heap.size + 1 + 1 + 1 := by have := HGT.out; omega
      have n4 : ¬ w.heap.size + 1 + 1 + 1 = g := by have := HGT.out; omega
      have h0 : ¬ k = 0 := by have := H1.out; omega
      have q0 : ((k : Int) == 0) = false := beq_eq_false_iff_ne.2 (by have := H1.out; omega)
      rw [if_neg h0] at HS
      · have q1 : ((k : Int) == 1) = true := by rw [H1.out]; rfl
        rw [if_pos H1.out] at HS
        have HE := Lib.hid HS.out
        clear h0 h4 hk
        have hlf : lightF ⟨a1, vl, false⟩ = true := by unfold lightF; simp [hna, hvl]
        have HA1 := Lib.hid (HAD.out ⟨a1, vl, false⟩ hlf)
        unfold AddPost at HA1
        dsimp only at HA1
        go_upto_region 14 with (first | (refine wpList_store_row rfl _ _ _ rfl g #[.string a1, .string vl, .bool false] rfl rfl _ _ HFR.out (by kernel_rfl) rfl (by kernel_rfl) ?_))
        have HFR4 : Hid (FRow (w3.setRow g #[.string a1, .string vl, .bool false]) g ⟨a1, vl, false⟩) := Lib.hid (setRow_heap _ _ _ _ _ _ HFR.out)
        have HH4 := Lib.hid (HH.out.stepB (below_row (Below.refl _ w3) (show w.heap.size + 4 ≤ g by have := HGT.out; omega) #[.string a1, .string vl, .bool false]))
        generalize w3.setRow g #[.string a1, .string vl, .bool false] = w4 at HFR4 HH4 ⊢
        clear c0 c1 c2 x0 x3 y0 y1 y2 s0 s1 s2 t0 t1 t2 sz0 sz1 sz2 tz0 tz1 tz2
        have HSA : SAdd w mx cp (.slice oa n cap) g ⟨a1, vl, false⟩ w4.drew := ⟨HH4.out.st, HFR4.out, ⟨_, HH4.out.rs, rfl⟩, ⟨_, HH4.out.rf, rfl⟩, HH4.out.below.drew, HH4.out.lt, HGT.out⟩
        refine wp_region_held_drew (S := SAdd w mx cp (.slice oa n cap) g ⟨a1, vl, false⟩) (by kernel_rfl) HSA (fun hHeld => ?_)
        clear HSA
        refine wpAnyH_takeD (i := 0) (v := ?_) (some 59) rfl rfl rfl (by kernel_rfl) (by kernel_rfl) (by kernel_rfl) (fun _ _ _ h => h) ?_ (by assumption) ?_
        rotate_left
        · intro W hW
          have c0 := hW.st.c0
          have c1 := hW.st.c1
          have c2 := hW.st.c2
          have y0 := hW.fr.c0
          have y1 := hW.fr.c1
          have y2 := hW.fr.c2
          go_simp
          with_reducible rfl
        try simp only [Act.put, List.setIfInBounds_toArray, List.set_cons_zero, List.set_cons_succ]
        refine wpAnyH_takeD (i := 1) (v := ?_) (some 60) rfl rfl rfl (by kernel_rfl) (by kernel_rfl) (by kernel_rfl) (fun _ _ _ h => h) ?_ (by assumption) ?_
        rotate_left
        · intro W hW
          have c0 := hW.st.c0
          have c1 := hW.st.c1
          have c2 := hW.st.c2
          have y0 := hW.fr.c0
          have y1 := hW.fr.c1
          have y2 := hW.fr.c2
          go_simp
          with_reducible rfl
        try simp only [Act.put, List.setIfInBounds_toArray, List.set_cons_zero, List.set_cons_succ]
        refine wpAnyH_takeD (i := 2) (v := ?_) (some 61) rfl rfl rfl (by kernel_rfl) (by kernel_rfl) (by kernel_rfl) (fun _ _ _ h => h) ?_ (by assumption) ?_
        rotate_left
        · intro W hW
          have c0 := hW.st.c0
          have c1 := hW.st.c1
          have c2 := hW.st.c2
          have y0 := hW.fr.c0
          have y1 := hW.fr.c1
          have y2 := hW.fr.c2
          go_simp
          with_reducible rfl
        try simp only [Act.put, List.setIfInBounds_toArray, List.set_cons_zero, List.set_cons_succ]
        refine wpAnyH_takeD (i := 4) (v := ?_) (some 63) rfl rfl rfl (by kernel_rfl) (by kernel_rfl) (by kernel_rfl) (fun _ _ _ h => h) ?_ (by assumption) ?_
        rotate_left
        · intro W hW
          have c0 := hW.st.c0
          have c1 := hW.st.c1
          have c2 := hW.st.c2
          have y0 := hW.fr.c0
          have y1 := hW.fr.c1
          have y2 := hW.fr.c2
          go_simp
          with_reducible rfl
        try simp only [Act.put, List.setIfInBounds_toArray, List.set_cons_zero, List.set_cons_succ]
        refine wpAnyH_takeD (i := 5) (v := ?_) (some 64) rfl rfl rfl (by kernel_rfl) (by kernel_rfl) (by kernel_rfl) (fun _ _ _ h => h) ?_ (by assumption) ?_
        rotate_left
        · intro W hW
          have c0 := hW.st.c0
          have c1 := hW.st.c1
          have c2 := hW.st.c2
          have y0 := hW.fr.c0
          have y1 := hW.fr.c1
          have y2 := hW.fr.c2
          go_simp
          with_reducible rfl
        try simp only [Act.put, List.setIfInBounds_toArray, List.set_cons_zero, List.set_cons_succ]
        refine wpAnyH_takeD (i := 7) (v := ?_) (some 66) rfl rfl rfl (by kernel_rfl) (by kernel_rfl) (by kernel_rfl) (fun _ _ _ h => h) ?_ (by assumption) ?_
        rotate_left
        · intro W hW
          have c0 := hW.st.c0
          have c1 := hW.st.c1
          have c2 := hW.st.c2
          have y0 := hW.fr.c0
          have y1 := hW.fr.c1
          have y2 := hW.fr.c2
          go_simp
          with_reducible rfl
        try simp only [Act.put, List.setIfInBounds_toArray, List.set_cons_zero, List.set_cons_succ]
        refine wpAnyH_ready (rs := [3]) (by kernel_rfl) (by simp) (AllReadyH.cons rfl (fun K hK => ?_) AllReadyH.nil)
        go_simp
        go_wp2_with (go_at_call 30; refine (HA1.out _ hHeld.below).mono ?_; rintro e w5 ⟨v, rfl, ho, hb⟩)
        refine hK.out _ _ (hHeld.step hb) (fun hHeld => ?_)
        obtain ⟨ob, cb, rfl, hf5, hcb, hx5⟩ := ho.form
        have HX5 := Lib.hid (show ∀ a, ob = some a → w.heap.size + 3 < a.block from fun a ha => by have h1 := (hx5.2 a ha).1; have h2 := HH4.out.lt; have h3 : w4.drew.heap.size = w4.heap.size := rfl; omega)
        have HV5 := Lib.hid (And.intro hcb hf5)
        clear ho hb hcb hf5 hx5 hK K
        refine wpAnyH_takeD (i := 6) (v := ?_) (some 65) rfl rfl rfl (by kernel_rfl) (by kernel_rfl) (by kernel_rfl) (fun _ _ _ h => h) ?_ (by assumption) ?_
        rotate_left
        · intro W hW
          go_simp
          with_reducible rfl
        try simp only [Act.put, List.setIfInBounds_toArray, List.set_cons_zero, List.set_cons_succ]
        obtain ⟨cs2, hrs, hsz2⟩ := hHeld.rs
        obtain ⟨cs3, hrf, hsz3⟩ := hHeld.rf
        have HR2 := Lib.hid (setRow_heap w5 _ _ #[.int .i64 mx, .slice ob (addL mx L ⟨a1, vl, false⟩).length cb, .int .i64 cp] _ _ hrs)
        have HF2 := Lib.hid ((setRow_other w5 (w.heap.size + 2) (w.heap.size + 3) #[.int .i64 mx, .slice ob (addL mx L ⟨a1, vl, false⟩).length cb, .int .i64 cp] (by omega)).trans hrf)
        have HB5 := Lib.hid hHeld.below
        refine wpAnyH_store (i := 8) (by kernel_rfl) rfl rfl rfl _ _ _ rfl (w.heap.size + 2) #[.int .i64 mx, .slice ob (addL mx L ⟨a1, vl, false⟩).length cb, .int .i64 cp] rfl rfl 45 cs2 hrs (by kernel_rfl) hsz2 (by kernel_rfl) (hHeld.setRow (.inl rfl) rfl) (fun hHeld => ?_)
        refine wpAnyH_store (i := 9) (by kernel_rfl) rfl rfl rfl _ _ _ rfl (w.heap.size + 3) #[.string a1, .string vl, .bool false] rfl rfl 25 cs3 HF2.out (by kernel_rfl) hsz3 (by kernel_rfl) (hHeld.setRow (.inr rfl) rfl) (fun hHeld => ?_)
        refine wpAnyH_takeD (i := 10) (v := ?_) (some 6) rfl rfl rfl (by kernel_rfl) (by kernel_rfl) (by kernel_rfl) (fun _ _ _ h => h) ?_ (by assumption) ?_
        rotate_left
        · intro W hW
          go_simp
          with_reducible rfl
        try simp only [Act.put, List.setIfInBounds_toArray, List.set_cons_zero, List.set_cons_succ]
        refine wpAnyH_takeD (i := 11) (v := ?_) (some 7) rfl rfl rfl (by kernel_rfl) (by kernel_rfl) (by kernel_rfl) (fun _ _ _ h => h) ?_ (by assumption) ?_
        rotate_left
        · intro W hW
          go_simp
          with_reducible rfl
        try simp only [Act.put, List.setIfInBounds_toArray, List.set_cons_zero, List.set_cons_succ]
        refine wpAnyH_done (by kernel_rfl) ?_ _
        clear hHeld hrs hrf hsz2 hsz3
        go_wp2_with fail
        have HNE := Lib.hid (show ∀ q, q = w.heap.size + 2 ∨ q = w.heap.size + 3 → addL mx L ⟨a1, vl, false⟩ ≠ [] → ∀ a, ob = some a → a.block ≠ q from fun q hq _ a ha => by have := HX5.out a ha; omega)
        exact bodyPost_ret (v := .tuple #[.agg #[.int .i64 mx, .slice ob (addL mx L ⟨a1, vl, false⟩).length cb, .int .i64 cp], .agg #[.string a1, .string vl, .bool false], .bool true, .int .i64 0]) (res_cell22 rfl _ _ (w.heap.size + 2) (w.heap.size + 3) _ _ _ _ (0, 0) (0, 0) _ _ rfl ((setRow_other _ _ _ _ (by omega)).trans HR2.out) Try.underlying45 rfl (by kernel_rfl) rfl (setRow_heap _ _ _ _ _ _ HF2.out) Try.underlying25 rfl (by kernel_rfl) _ _ rfl rfl) rfl
          ⟨ob, _, cb, by rw [HE.out], by rw [HE.out], HV5.out.1, by rw [HE.out]; exact (HV5.out.2.setRow (HNE.out _ (.inl rfl)) _).setRow (HNE.out _ (.inr rfl)) _, .inr (fun a ha => by have := HX5.out a ha; omega), below_row (below_row HB5.out (by omega) _) (by omega) _⟩
end Go.Proofs.Yteceinojmdgmeaa

