/- footmanref06.Step: an item that names a field. -/
import Derived.Test.YteceinojmdgmeaaGreatC45
import Derived.Test.YteceinojmdgmeaaGreatC21
namespace Go.Proofs.YteceinojmdgmeaaGreat
open Go.RowKit
set_option linter.unusedVariables false
set_option linter.unusedSimpArgs false

/-- What the last regions look at. -/
structure De (w : World) (mx : Int) (v : Value) (cp : Int) (g : Nat) (f : Fld) (W : World) : Prop where
  st : SRow 26 W w.heap.size mx v cp
  fr : FRow W g f
  rs : ∃ cs, W.heap[w.heap.size + 2]? = some (.cells cs 26 (0, 0)) ∧ cs.size = 3
  rf : ∃ cs, W.heap[w.heap.size + 3]? = some (.cells cs 47 (0, 0)) ∧ cs.size = 3
  below : Below w.heap.size w W
  lt : w.heap.size + 3 < W.heap.size
  gt : w.heap.size + 3 < g
theorem De.setRow {w W : World} {mx cp : Int} {v : Value} {g : Nat} {f : Fld} {ds : Array Value} {q : Nat} (hq : q = w.heap.size + 2 ∨ q = w.heap.size + 3) (hd : ds.size = 3) (h : De w mx v cp g f W) : De w mx v cp g f (W.setRow q ds) := by
  obtain ⟨h1, h2, ⟨cs, h3, h3'⟩, ⟨cs2, h4, h4'⟩, h5, h6, h7⟩ := h
  refine ⟨(setRow_other _ _ _ _ (by omega)).trans h1, (setRow_other _ _ _ _ (by omega)).trans h2, ?_, ?_, below_row h5 (by omega) _, by simpa [World.setRow] using h6, h7⟩
  · rcases hq with rfl | rfl
    · exact ⟨_, setRow_heap _ _ _ _ _ _ h3, hd⟩
    · exact ⟨cs, (setRow_other _ _ _ _ (by omega)).trans h3, h3'⟩
  · rcases hq with rfl | rfl
    · exact ⟨cs2, (setRow_other _ _ _ _ (by omega)).trans h4, h4'⟩
    · exact ⟨_, setRow_heap _ _ _ _ _ _ h4, hd⟩
theorem De.drew {w W : World} {mx cp : Int} {v : Value} {g : Nat} {f : Fld} (h : De w mx v cp g f W) : De w mx v cp g f W.drew := ⟨h.st, h.fr, h.rs, h.rf, h.below.drew, h.lt, h.gt⟩
theorem Dh.setRow {w W : World} {mx cp : Int} {v : Value} {k : Nat} {i : Int} {nm vl : ByteArray} (h : Dh w W mx cp v k i nm vl) {g : Nat} (hg : w.heap.size + 3 < g) (cs : Array Value) : Dh w (W.setRow g cs) mx cp v k i nm vl :=
  h.stepB (below_row (Below.refl _ W) (by omega) cs)
set_option maxRecDepth 100000 in
set_option maxHeartbeats 4000000 in
theorem dstep_zero (mx cp : Int) (oa : Option Addr) (n cap : Nat) (L : List Fld) (hn : L.length = n) (hnc : n ≤ cap) (hl : ∀ f ∈ L, lightF f = true) (hn30 : n ≤ 1000) (k : Nat) (hk : k < 256) (i : Int) (nm vl : ByteArray) (hi : (Lit.int .i64 i).wf = true) (hvl : vl.size ≤ 40000) (hnm : nm.size ≤ 40000) (w : World) (hf : FieldsN w oa L)
    (h0 : hchk mx cp L = 0) (h1 : chkI ⟨k, i, nm, vl⟩ = 0) (h4 : ¬ k = 4) (hz : i = 0) :
    Calls Tryz.prog 22 #[.agg #[.int .i64 mx, .slice oa n cap, .int .i64 cp], .agg #[.int .u8 (k : Int), .int .i64 i, .string nm, .string vl]] w (StepPost3 oa mx cp L ⟨k, i, nm, vl⟩ w) := by
  have HH := Lib.hid (Dh.new w mx cp (.slice oa n cap) k i nm vl)
  have HFW := Lib.hid (show ∀ W, Below w.heap.size w W → FieldsN W oa L from fun W hW => hf.below hW)
  have HCK := Lib.hid (fun W (hW : Below w.heap.size w W) => dcheck6_any mx cp oa n cap L hn hl hn30 W (hf.below hW))
  have HIC := Lib.hid (fun W => dcheck_any k i nm vl hk W)
  have HAT := Lib.hid (fun W (hW : Below w.heap.size w W) => refAt4_any mx oa n cap L hn i hi W (hf.below hW))
  have HADF := Lib.hid (fun (f : Fld) (hlf : lightF f = true) W (hW : Below w.heap.size w W) => dadd_any oa n cap L hn hnc hl hn30 mx f hlf W (hf.below hW))
  have HNL := Lib.hid (named_len L hl ⟨k, i, nm, vl⟩ hnm)
  have HN := Lib.hid hn
  have HOA := Lib.hid (show ∀ a, oa = some a → L ≠ [] → a.block < w.heap.size from fun a ha hne => by
    cases L with
    | nil => exact absurd rfl hne
    | cons f t =>
      obtain ⟨b, o, e, c, _⟩ := hf 0 f rfl
      rw [ha] at e
      injection e with e
      subst e
      exact World.block_lt_of_cell? _ _ c)
  unfold StepPost3
  have e0 : hStep mx cp L ⟨k, i, nm, vl⟩ = hSt mx cp L ⟨k, i, nm, vl⟩ := by unfold hStep; rw [h0, if_neg (by simp), h1, if_neg (by simp)]
  rw [e0]
  rw [h0] at HCK
  rw [h1] at HIC
  obtain ⟨R, hR⟩ : ∃ R, hSt mx cp L ⟨k, i, nm, vl⟩ = R := ⟨_, rfl⟩
  rw [hR]
  have HS : Hid (R = if (hNamed L ⟨k, i, nm, vl⟩).2 = false then (mx, L, zFl, false, 6) else if k = 0 then (mx, L, (hNamed L ⟨k, i, nm, vl⟩).1, true, 0) else if k = 1 then (mx, addL mx L ⟨(hNamed L ⟨k, i, nm, vl⟩).1.name, vl, false⟩, ⟨(hNamed L ⟨k, i, nm, vl⟩).1.name, vl, false⟩, true, 0) else (mx, L, ⟨(hNamed L ⟨k, i, nm, vl⟩).1.name, vl, decide (k = 3)⟩, true, 0)) := Lib.hid (by rw [← hR]; unfold hSt; rw [if_neg h4])
  have q4 : ((k : Int) == 4) = false := beq_eq_false_iff_ne.2 (by omega)
  have hI0 := (chkI_zero h1).2.1
  have HNM : Hid (hNamed L ⟨k, i, nm, vl⟩ = if i = 0 then (⟨nm, ⟨#[]⟩, false⟩, true) else atF L i) := Lib.hid rfl
  unfold AtPost at HAT
  clear hf hn h0 h1 h4 hk hl hn30 e0 hR
  rw [HNM.out, if_pos hz] at HS HNL
  rw [if_neg (by simp)] at HS
  have q5 : decide (0 < i) = false := decide_eq_false (by omega)
  clear hz hI0 HNM HAT hi
  obtain ⟨a1, e1⟩ : ∃ a, a = nm := ⟨_, rfl⟩
  obtain ⟨a2, e2⟩ : ∃ a, a = (⟨#[]⟩ : ByteArray) := ⟨_, rfl⟩
  obtain ⟨a3, e3⟩ : ∃ a, a = false := ⟨_, rfl⟩
  have HE := Lib.hid (And.intro e1 (And.intro e2 e3))
  rw [← e1, ← e2] at HS
  rw [← e1] at HNL
  clear e1 e2 e3
  dsimp only at HNL
  have HLF : Hid (lightF ⟨a1, vl, false⟩ = true) := Lib.hid (by simp [lightF, hvl]; exact HNL.out)
  have HAD := Lib.hid (HADF.out ⟨a1, vl, false⟩ HLF.out)
  unfold DAddPost at HAD
  dsimp only at HAD HS
  generalize addL mx L ⟨a1, vl, false⟩ = R2 at HAD HS
  clear HADF HLF
  go_enter Tryz.func22, Tryz.ntmps22
  go_upto_region 1 with fail
  generalize ((((w.alloc (.cells #[.int .i64 mx, .slice oa n cap, .int .i64 cp] 26)).alloc (.cells #[.int .u8 (k : Int), .int .i64 i, .string nm, .string vl] 63)).alloc (.cells #[.int .i64 0, .slice none 0 0, .int .i64 0] 26)).alloc (.cells #[.string ⟨#[]⟩, .string ⟨#[]⟩, .bool false] 47)) = w1 at HH ⊢
  have c0 := HH.out.st.c0
  have c1 := HH.out.st.c1
  have c2 := HH.out.st.c2
  have x0 := HH.out.it.c0
  have x1 := HH.out.it.c1
  have x2 := HH.out.it.c2
  have x3 := HH.out.it.c3
  go_upto_region 12 with (first | (go_at_call 20; refine (HCK.out _ HH.out.below).mono ?_; rintro e w2 ⟨rfl, hb⟩; replace HH := Lib.hid (HH.out.step hb); clear hb; have c0 := HH.out.st.c0; have c1 := HH.out.st.c1; have c2 := HH.out.st.c2; have x0 := HH.out.it.c0; have x1 := HH.out.it.c1; have x2 := HH.out.it.c2; have x3 := HH.out.it.c3) | (go_at_call 36; refine (HIC.out _).mono ?_; rintro e w2 ⟨rfl, hb⟩; replace HH := Lib.hid (HH.out.step hb); clear hb; have c0 := HH.out.st.c0; have c1 := HH.out.st.c1; have c2 := HH.out.st.c2; have x0 := HH.out.it.c0; have x1 := HH.out.it.c1; have x2 := HH.out.it.c2; have x3 := HH.out.it.c3))
  have HG := Lib.hid (show FRow _ w2.heap.size ⟨nm, ⟨#[]⟩, false⟩ from heap_alloc_new w2 (.cells #[.string nm, .string ⟨#[]⟩, .bool false] 47))
  have HGT := Lib.hid HH.out.lt
  replace HH := Lib.hid (HH.out.step (below_new (.cells #[.string nm, .string ⟨#[]⟩, .bool false] 47)))
  generalize w2.alloc (.cells #[.string nm, .string ⟨#[]⟩, .bool false] 47) = wg at HH HG ⊢
  generalize w2.heap.size = g at HG HGT ⊢
  clear c0 c1 c2 x0 x1 x2 x3
  have HG2 := Lib.hid (show FRow wg g ⟨a1, a2, a3⟩ from by rw [HE.out.1, HE.out.2.1, HE.out.2.2]; exact HG.out)
  have HSS := Lib.hid (show R = if k = 0 then (mx, L, ⟨a1, a2, a3⟩, true, 0) else if k = 1 then (mx, R2, ⟨a1, vl, false⟩, true, 0) else (mx, L, ⟨a1, vl, decide (k = 3)⟩, true, 0) from by rw [HE.out.2.2]; exact HS.out)
  clear HG HS HE
  rename Hid (FRow wg g ⟨a1, a2, a3⟩) => HG
  rename Hid (R = _) => HS
  have HNE := Lib.hid (show ∀ a, oa = some a → L ≠ [] → a.block < w.heap.size from HOA.out)
  have y0 := HG.out.c0
  have y1 := HG.out.c1
  have y2 := HG.out.c2
  have c0 := HH.out.st.c0
  have c1 := HH.out.st.c1
  have c2 := HH.out.st.c2
  have x0 := HH.out.it.c0
  have x1 := HH.out.it.c1
  have x2 := HH.out.it.c2
  have x3 := HH.out.it.c3
  by_cases hk0 : k = 0
  · rw [if_pos hk0] at HS
    have q0 : ((k : Int) == 0) = true := by rw [hk0]; rfl
    clear hk0
    go_upto_region 18 with fail
    have HDE := Lib.hid (show De w mx (.slice oa n cap) cp g ⟨a1, a2, a3⟩ _ from ⟨HH.out.st, HG.out, ⟨_, HH.out.rs, rfl⟩, ⟨_, HH.out.rf, rfl⟩, HH.out.below, HH.out.lt, HGT.out⟩)
    refine wp_region_held_drew (S := De w mx (.slice oa n cap) cp g ⟨a1, a2, a3⟩) (by kernel_rfl) HDE.out.drew (fun hHeld => ?_)
    refine wpAnyH_takeD (i := 0) (v := ?_) (some 70) rfl rfl rfl (by kernel_rfl) (by kernel_rfl) (by kernel_rfl) (fun _ _ _ h => h) ?_ (by assumption) ?_
    rotate_left
    · intro W hW
      have c0 := hW.st.c0
      have c1 := hW.st.c1
      have c2 := hW.st.c2
      have y0 := hW.fr.c0
      have y1 := hW.fr.c1
      have y2 := hW.fr.c2
      go_simp
      with_reducible rfl
    try simp only [Act.put, List.setIfInBounds_toArray, List.set_cons_zero, List.set_cons_succ]
    refine wpAnyH_takeD (i := 1) (v := ?_) (some 71) rfl rfl rfl (by kernel_rfl) (by kernel_rfl) (by kernel_rfl) (fun _ _ _ h => h) ?_ (by assumption) ?_
    rotate_left
    · intro W hW
      have c0 := hW.st.c0
      have c1 := hW.st.c1
      have c2 := hW.st.c2
      have y0 := hW.fr.c0
      have y1 := hW.fr.c1
      have y2 := hW.fr.c2
      go_simp
      with_reducible rfl
    try simp only [Act.put, List.setIfInBounds_toArray, List.set_cons_zero, List.set_cons_succ]
    have HDD := Lib.hid HDE.out.drew
    obtain ⟨cs2, hrs, hsz2⟩ := HDD.out.rs
    obtain ⟨cs3, hrf, hsz3⟩ := HDD.out.rf
    have HR2 := Lib.hid (setRow_heap _ _ _ #[.int .i64 mx, .slice oa n cap, .int .i64 cp] _ _ hrs)
    have HF2 := Lib.hid ((setRow_other _ (w.heap.size + 2) (w.heap.size + 3) #[.int .i64 mx, .slice oa n cap, .int .i64 cp] (by omega)).trans hrf)
    have HB5 := Lib.hid HDD.out.below
    refine wpAnyH_store (i := 2) (by kernel_rfl) rfl rfl rfl _ _ _ rfl (w.heap.size + 2) #[.int .i64 mx, .slice oa n cap, .int .i64 cp] rfl rfl 26 cs2 hrs (by kernel_rfl) hsz2 (by kernel_rfl) (hHeld.setRow (.inl rfl) rfl) (fun hHeld => ?_)
    refine wpAnyH_store (i := 3) (by kernel_rfl) rfl rfl rfl _ _ _ rfl (w.heap.size + 3) #[.string a1, .string a2, .bool a3] rfl rfl 47 cs3 HF2.out (by kernel_rfl) hsz3 (by kernel_rfl) (hHeld.setRow (.inr rfl) rfl) (fun hHeld => ?_)
    refine wpAnyH_takeD (i := 4) (v := ?_) (some 6) rfl rfl rfl (by kernel_rfl) (by kernel_rfl) (by kernel_rfl) (fun _ _ _ h => h) ?_ (by assumption) ?_
    rotate_left
    · intro W hW
      go_simp
      with_reducible rfl
    try simp only [Act.put, List.setIfInBounds_toArray, List.set_cons_zero, List.set_cons_succ]
    refine wpAnyH_takeD (i := 5) (v := ?_) (some 7) rfl rfl rfl (by kernel_rfl) (by kernel_rfl) (by kernel_rfl) (fun _ _ _ h => h) ?_ (by assumption) ?_
    rotate_left
    · intro W hW
      go_simp
      with_reducible rfl
    try simp only [Act.put, List.setIfInBounds_toArray, List.set_cons_zero, List.set_cons_succ]
    refine wpAnyH_done (by kernel_rfl) ?_ _
    clear hHeld hrs hrf hsz2 hsz3
    go_wp2_with fail
    exact bodyPost_ret (v := .tuple #[.agg #[.int .i64 mx, .slice oa n cap, .int .i64 cp], .agg #[.string a1, .string a2, .bool a3], .bool true, .int .i64 0]) (res_cell22 rfl _ _ (w.heap.size + 2) (w.heap.size + 3) _ _ _ _ (0, 0) (0, 0) _ _ rfl ((setRow_other _ _ _ _ (by omega)).trans HR2.out) Tryz.underlying26 rfl (by kernel_rfl) rfl (setRow_heap _ _ _ _ _ _ HF2.out) Tryz.underlying47 rfl (by kernel_rfl) _ _ rfl rfl) rfl
      ⟨oa, n, cap, by rw [HS.out], by rw [HS.out]; exact HN.out, hnc, by rw [HS.out]; exact HFW.out _ (below_row (below_row HB5.out (by omega) _) (by omega) _), (by first | exact .inl ⟨rfl, by rw [HS.out]⟩ | (rw [HS.out]; simp) | simp), below_row (below_row HB5.out (by omega) _) (by omega) _⟩
  · rw [if_neg hk0] at HS
    have q0 : ((k : Int) == 0) = false := beq_eq_false_iff_ne.2 (by omega)
    clear hk0
    have q3 : ((k : Int) == 3) = decide (k = 3) := by rw [Bool.eq_iff_iff]; simp; omega
    by_cases hk1 : k = 1
    · rw [if_pos hk1] at HS
      have q1 : ((k : Int) == 1) = true := by rw [hk1]; rfl
      have e3 : decide (k = 3) = false := decide_eq_false (by omega)
      rw [e3] at q3
      clear hk1 e3
      go_upto_region 20 with (first | (refine wpList_store_row rfl _ _ _ rfl g #[.string a1, .string vl, .bool false] rfl rfl _ _ HG.out (by kernel_rfl) rfl (by kernel_rfl) ?_))
      replace HH := Lib.hid (HH.out.setRow HGT.out #[.string a1, .string vl, .bool false])
      replace HG := Lib.hid (show FRow _ g ⟨a1, vl, false⟩ from setRow_heap _ _ _ #[.string a1, .string vl, .bool false] _ _ HG.out)
      generalize World.setRow _ g #[.string a1, .string vl, .bool false] = w5 at HH HG ⊢
      clear c0 c1 c2 x0 x1 x2 x3 y0 y1 y2
      have y0 := HG.out.c0
      have y1 := HG.out.c1
      have y2 := HG.out.c2
      have c0 := HH.out.st.c0
      have c1 := HH.out.st.c1
      have c2 := HH.out.st.c2
      have x0 := HH.out.it.c0
      have x1 := HH.out.it.c1
      have x2 := HH.out.it.c2
      have x3 := HH.out.it.c3
      have z0 := HH.out.st.z 0
      have z1 := HH.out.st.z 1
      go_upto_region 22 with (first | (go_at_call 39; refine (HAD.out _ HH.out.below).mono ?_; rintro e w6 ⟨ob, nb, cb, rfl, hlen, hcb, hf5, hob, hb⟩; have HV := Lib.hid (And.intro hlen (And.intro hcb hf5)); have HOB := Lib.hid (show (ob = oa ∧ R2 = L) ∨ ∀ a, ob = some a → w.heap.size + 3 < a.block from by rcases hob with h | h; exact .inl h; exact .inr (fun a ha => by have h1 := h a ha; have h2 := HH.out.lt; omega)); have HGB := Lib.hid HH.out.below.size; replace HH := Lib.hid (HH.out.step hb); replace HG := Lib.hid (HG.out.step hb); clear hlen hcb hf5 hob hb; have c0 := HH.out.st.c0; have c1 := HH.out.st.c1; (have z0 := HH.out.st.z 0); (have z1 := HH.out.st.z 1)))
      have HFF : Hid (∀ g2, g2 = w.heap.size ∨ g2 = w.heap.size + 2 ∨ g2 = w.heap.size + 3 → R2 ≠ [] → ∀ a, ob = some a → a.block ≠ g2) := Lib.hid (fun g2 hg hne a ha => by
        rcases HOB.out with ⟨e1, e2⟩ | h
        · have := HOA.out a (by rw [← e1]; exact ha) (by rw [← e2]; exact hne)
          omega
        · have := h a ha
          omega)
      have hst7 : SRow 26 ((w6.setCell ⟨w.heap.size, 0, none⟩ (.int .i64 mx)).setCell ⟨w.heap.size, 1, none⟩ (.slice ob nb cb)) w.heap.size mx (.slice ob nb cb) cp :=
        heap_setCell_same _ _ 1 _ _ _ (heap_setCell_same _ _ 0 _ _ (.int .i64 mx) HH.out.st)
      have hoth : ∀ q, q ≠ w.heap.size → ((w6.setCell ⟨w.heap.size, 0, none⟩ (.int .i64 mx)).setCell ⟨w.heap.size, 1, none⟩ (.slice ob nb cb)).heap[q]? = w6.heap[q]? := fun q hq => by
        rw [Below.heap_setCell _ _ _ _ (by simpa using hq), Below.heap_setCell _ _ _ _ (by simpa using hq)]
      have hsize : ((w6.setCell ⟨w.heap.size, 0, none⟩ (.int .i64 mx)).setCell ⟨w.heap.size, 1, none⟩ (.slice ob nb cb)).heap.size = w6.heap.size := by simp [World.setCell]
      have HDX := Lib.hid (show De w mx (.slice ob nb cb) cp g ⟨a1, vl, false⟩ ((w6.setCell ⟨w.heap.size, 0, none⟩ (.int .i64 mx)).setCell ⟨w.heap.size, 1, none⟩ (.slice ob nb cb)) from ⟨hst7, (hoth _ (by have := HGT.out; omega)).trans HG.out, ⟨_, (hoth _ (by omega)).trans HH.out.rs, rfl⟩, ⟨_, (hoth _ (by omega)).trans HH.out.rf, rfl⟩, (HH.out.below.setCell (by simp) _).setCell (by simp) _, by rw [hsize]; exact HH.out.lt, HGT.out⟩)
      have HVX := Lib.hid (show FieldsN ((w6.setCell ⟨w.heap.size, 0, none⟩ (.int .i64 mx)).setCell ⟨w.heap.size, 1, none⟩ (.slice ob nb cb)) ob R2 from fun j f hj => by
        obtain ⟨b, o, ha, h0, h1, h2⟩ := HV.out.2.2 j f hj
        have e := hoth b (HFF.out _ (.inl rfl) (fun h => by rw [h] at hj; cases hj) _ ha)
        exact ⟨b, o, ha, (cell_eq e).trans h0, (cell_eq e).trans h1, (cell_eq e).trans h2⟩)
      clear hst7 hoth hsize z0 z1 y0 y1 y2
      clear c0 c1 c2 x0 x1 x2 x3
      generalize (w6.setCell ⟨w.heap.size, 0, none⟩ (.int .i64 mx)).setCell ⟨w.heap.size, 1, none⟩ (.slice ob nb cb) = w7 at HDX HVX ⊢
      go_upto_region 22 with fail
      have HDE := Lib.hid (show De w mx (.slice ob nb cb) cp g ⟨a1, vl, false⟩ _ from HDX.out)
      refine wp_region_held_drew (S := De w mx (.slice ob nb cb) cp g ⟨a1, vl, false⟩) (by kernel_rfl) HDE.out.drew (fun hHeld => ?_)
      refine wpAnyH_takeD (i := 0) (v := ?_) (some 88) rfl rfl rfl (by kernel_rfl) (by kernel_rfl) (by kernel_rfl) (fun _ _ _ h => h) ?_ (by assumption) ?_
      rotate_left
      · intro W hW
        have c0 := hW.st.c0
        have c1 := hW.st.c1
        have c2 := hW.st.c2
        have y0 := hW.fr.c0
        have y1 := hW.fr.c1
        have y2 := hW.fr.c2
        go_simp
        with_reducible rfl
      try simp only [Act.put, List.setIfInBounds_toArray, List.set_cons_zero, List.set_cons_succ]
      refine wpAnyH_takeD (i := 1) (v := ?_) (some 89) rfl rfl rfl (by kernel_rfl) (by kernel_rfl) (by kernel_rfl) (fun _ _ _ h => h) ?_ (by assumption) ?_
      rotate_left
      · intro W hW
        have c0 := hW.st.c0
        have c1 := hW.st.c1
        have c2 := hW.st.c2
        have y0 := hW.fr.c0
        have y1 := hW.fr.c1
        have y2 := hW.fr.c2
        go_simp
        with_reducible rfl
      try simp only [Act.put, List.setIfInBounds_toArray, List.set_cons_zero, List.set_cons_succ]
      have HDD := Lib.hid HDE.out.drew
      obtain ⟨cs2, hrs, hsz2⟩ := HDD.out.rs
      obtain ⟨cs3, hrf, hsz3⟩ := HDD.out.rf
      have HR2 := Lib.hid (setRow_heap _ _ _ #[.int .i64 mx, .slice ob nb cb, .int .i64 cp] _ _ hrs)
      have HF2 := Lib.hid ((setRow_other _ (w.heap.size + 2) (w.heap.size + 3) #[.int .i64 mx, .slice ob nb cb, .int .i64 cp] (by omega)).trans hrf)
      have HB5 := Lib.hid HDD.out.below
      refine wpAnyH_store (i := 2) (by kernel_rfl) rfl rfl rfl _ _ _ rfl (w.heap.size + 2) #[.int .i64 mx, .slice ob nb cb, .int .i64 cp] rfl rfl 26 cs2 hrs (by kernel_rfl) hsz2 (by kernel_rfl) (hHeld.setRow (.inl rfl) rfl) (fun hHeld => ?_)
      refine wpAnyH_store (i := 3) (by kernel_rfl) rfl rfl rfl _ _ _ rfl (w.heap.size + 3) #[.string a1, .string vl, .bool false] rfl rfl 47 cs3 HF2.out (by kernel_rfl) hsz3 (by kernel_rfl) (hHeld.setRow (.inr rfl) rfl) (fun hHeld => ?_)
      refine wpAnyH_takeD (i := 4) (v := ?_) (some 6) rfl rfl rfl (by kernel_rfl) (by kernel_rfl) (by kernel_rfl) (fun _ _ _ h => h) ?_ (by assumption) ?_
      rotate_left
      · intro W hW
        go_simp
        with_reducible rfl
      try simp only [Act.put, List.setIfInBounds_toArray, List.set_cons_zero, List.set_cons_succ]
      refine wpAnyH_takeD (i := 5) (v := ?_) (some 7) rfl rfl rfl (by kernel_rfl) (by kernel_rfl) (by kernel_rfl) (fun _ _ _ h => h) ?_ (by assumption) ?_
      rotate_left
      · intro W hW
        go_simp
        with_reducible rfl
      try simp only [Act.put, List.setIfInBounds_toArray, List.set_cons_zero, List.set_cons_succ]
      refine wpAnyH_done (by kernel_rfl) ?_ _
      clear hHeld hrs hrf hsz2 hsz3
      go_wp2_with fail
      exact bodyPost_ret (v := .tuple #[.agg #[.int .i64 mx, .slice ob nb cb, .int .i64 cp], .agg #[.string a1, .string vl, .bool false], .bool true, .int .i64 0]) (res_cell22 rfl _ _ (w.heap.size + 2) (w.heap.size + 3) _ _ _ _ (0, 0) (0, 0) _ _ rfl ((setRow_other _ _ _ _ (by omega)).trans HR2.out) Tryz.underlying26 rfl (by kernel_rfl) rfl (setRow_heap _ _ _ _ _ _ HF2.out) Tryz.underlying47 rfl (by kernel_rfl) _ _ rfl rfl) rfl
        ⟨ob, nb, cb, by rw [HS.out], by rw [HS.out]; exact HV.out.1, HV.out.2.1, by rw [HS.out]; exact (FieldsN.setRow (show FieldsN _ ob R2 from HVX.out) (HFF.out _ (.inr (.inl rfl))) _).setRow (HFF.out _ (.inr (.inr rfl))) _, (by rw [HS.out]; rcases HOB.out with h | h; exact .inl h; exact .inr (fun a ha => by have := h a ha; omega)), below_row (below_row HB5.out (by omega) _) (by omega) _⟩
    · rw [if_neg hk1] at HS
      have q1 : ((k : Int) == 1) = false := beq_eq_false_iff_ne.2 (by omega)
      clear hk1
      generalize decide (k = 3) = b3 at q3 HS
      go_upto_region 20 with (first | (refine wpList_store_row rfl _ _ _ rfl g #[.string a1, .string vl, .bool b3] rfl rfl _ _ HG.out (by kernel_rfl) rfl (by kernel_rfl) ?_))
      replace HH := Lib.hid (HH.out.setRow HGT.out #[.string a1, .string vl, .bool b3])
      replace HG := Lib.hid (show FRow _ g ⟨a1, vl, b3⟩ from setRow_heap _ _ _ #[.string a1, .string vl, .bool b3] _ _ HG.out)
      generalize World.setRow _ g #[.string a1, .string vl, .bool b3] = w5 at HH HG ⊢
      clear c0 c1 c2 x0 x1 x2 x3 y0 y1 y2
      have y0 := HG.out.c0
      have y1 := HG.out.c1
      have y2 := HG.out.c2
      have c0 := HH.out.st.c0
      have c1 := HH.out.st.c1
      have c2 := HH.out.st.c2
      have x0 := HH.out.it.c0
      have x1 := HH.out.it.c1
      have x2 := HH.out.it.c2
      have x3 := HH.out.it.c3
      go_upto_region 22 with fail
      have HDE := Lib.hid (show De w mx (.slice oa n cap) cp g ⟨a1, vl, b3⟩ _ from ⟨HH.out.st, HG.out, ⟨_, HH.out.rs, rfl⟩, ⟨_, HH.out.rf, rfl⟩, HH.out.below, HH.out.lt, HGT.out⟩)
      refine wp_region_held_drew (S := De w mx (.slice oa n cap) cp g ⟨a1, vl, b3⟩) (by kernel_rfl) HDE.out.drew (fun hHeld => ?_)
      refine wpAnyH_takeD (i := 0) (v := ?_) (some 88) rfl rfl rfl (by kernel_rfl) (by kernel_rfl) (by kernel_rfl) (fun _ _ _ h => h) ?_ (by assumption) ?_
      rotate_left
      · intro W hW
        have c0 := hW.st.c0
        have c1 := hW.st.c1
        have c2 := hW.st.c2
        have y0 := hW.fr.c0
        have y1 := hW.fr.c1
        have y2 := hW.fr.c2
        go_simp
        with_reducible rfl
      try simp only [Act.put, List.setIfInBounds_toArray, List.set_cons_zero, List.set_cons_succ]
      refine wpAnyH_takeD (i := 1) (v := ?_) (some 89) rfl rfl rfl (by kernel_rfl) (by kernel_rfl) (by kernel_rfl) (fun _ _ _ h => h) ?_ (by assumption) ?_
      rotate_left
      · intro W hW
        have c0 := hW.st.c0
        have c1 := hW.st.c1
        have c2 := hW.st.c2
        have y0 := hW.fr.c0
        have y1 := hW.fr.c1
        have y2 := hW.fr.c2
        go_simp
        with_reducible rfl
      try simp only [Act.put, List.setIfInBounds_toArray, List.set_cons_zero, List.set_cons_succ]
      have HDD := Lib.hid HDE.out.drew
      obtain ⟨cs2, hrs, hsz2⟩ := HDD.out.rs
      obtain ⟨cs3, hrf, hsz3⟩ := HDD.out.rf
      have HR2 := Lib.hid (setRow_heap _ _ _ #[.int .i64 mx, .slice oa n cap, .int .i64 cp] _ _ hrs)
      have HF2 := Lib.hid ((setRow_other _ (w.heap.size + 2) (w.heap.size + 3) #[.int .i64 mx, .slice oa n cap, .int .i64 cp] (by omega)).trans hrf)
      have HB5 := Lib.hid HDD.out.below
      refine wpAnyH_store (i := 2) (by kernel_rfl) rfl rfl rfl _ _ _ rfl (w.heap.size + 2) #[.int .i64 mx, .slice oa n cap, .int .i64 cp] rfl rfl 26 cs2 hrs (by kernel_rfl) hsz2 (by kernel_rfl) (hHeld.setRow (.inl rfl) rfl) (fun hHeld => ?_)
      refine wpAnyH_store (i := 3) (by kernel_rfl) rfl rfl rfl _ _ _ rfl (w.heap.size + 3) #[.string a1, .string vl, .bool b3] rfl rfl 47 cs3 HF2.out (by kernel_rfl) hsz3 (by kernel_rfl) (hHeld.setRow (.inr rfl) rfl) (fun hHeld => ?_)
      refine wpAnyH_takeD (i := 4) (v := ?_) (some 6) rfl rfl rfl (by kernel_rfl) (by kernel_rfl) (by kernel_rfl) (fun _ _ _ h => h) ?_ (by assumption) ?_
      rotate_left
      · intro W hW
        go_simp
        with_reducible rfl
      try simp only [Act.put, List.setIfInBounds_toArray, List.set_cons_zero, List.set_cons_succ]
      refine wpAnyH_takeD (i := 5) (v := ?_) (some 7) rfl rfl rfl (by kernel_rfl) (by kernel_rfl) (by kernel_rfl) (fun _ _ _ h => h) ?_ (by assumption) ?_
      rotate_left
      · intro W hW
        go_simp
        with_reducible rfl
      try simp only [Act.put, List.setIfInBounds_toArray, List.set_cons_zero, List.set_cons_succ]
      refine wpAnyH_done (by kernel_rfl) ?_ _
      clear hHeld hrs hrf hsz2 hsz3
      go_wp2_with fail
      exact bodyPost_ret (v := .tuple #[.agg #[.int .i64 mx, .slice oa n cap, .int .i64 cp], .agg #[.string a1, .string vl, .bool b3], .bool true, .int .i64 0]) (res_cell22 rfl _ _ (w.heap.size + 2) (w.heap.size + 3) _ _ _ _ (0, 0) (0, 0) _ _ rfl ((setRow_other _ _ _ _ (by omega)).trans HR2.out) Tryz.underlying26 rfl (by kernel_rfl) rfl (setRow_heap _ _ _ _ _ _ HF2.out) Tryz.underlying47 rfl (by kernel_rfl) _ _ rfl rfl) rfl
        ⟨oa, n, cap, by rw [HS.out], by rw [HS.out]; exact HN.out, hnc, by rw [HS.out]; exact HFW.out _ (below_row (below_row HB5.out (by omega) _) (by omega) _), (by first | exact .inl ⟨rfl, by rw [HS.out]⟩ | (rw [HS.out]; simp) | simp), below_row (below_row HB5.out (by omega) _) (by omega) _⟩
set_option maxRecDepth 100000 in
set_option maxHeartbeats 4000000 in
theorem dstep_place (mx cp : Int) (oa : Option Addr) (n cap : Nat) (L : List Fld) (hn : L.length = n) (hnc : n ≤ cap) (hl : ∀ f ∈ L, lightF f = true) (hn30 : n ≤ 1000) (k : Nat) (hk : k < 256) (i : Int) (nm vl : ByteArray) (hi : (Lit.int .i64 i).wf = true) (hvl : vl.size ≤ 40000) (hnm : nm.size ≤ 40000) (w : World) (hf : FieldsN w oa L)
    (h0 : hchk mx cp L = 0) (h1 : chkI ⟨k, i, nm, vl⟩ = 0) (h4 : ¬ k = 4) (hz : ¬ i = 0) :
    Calls Tryz.prog 22 #[.agg #[.int .i64 mx, .slice oa n cap, .int .i64 cp], .agg #[.int .u8 (k : Int), .int .i64 i, .string nm, .string vl]] w (StepPost3 oa mx cp L ⟨k, i, nm, vl⟩ w) := by
  have HH := Lib.hid (Dh.new w mx cp (.slice oa n cap) k i nm vl)
  have HFW := Lib.hid (show ∀ W, Below w.heap.size w W → FieldsN W oa L from fun W hW => hf.below hW)
  have HCK := Lib.hid (fun W (hW : Below w.heap.size w W) => dcheck6_any mx cp oa n cap L hn hl hn30 W (hf.below hW))
  have HIC := Lib.hid (fun W => dcheck_any k i nm vl hk W)
  have HAT := Lib.hid (fun W (hW : Below w.heap.size w W) => refAt4_any mx oa n cap L hn i hi W (hf.below hW))
  have HADF := Lib.hid (fun (f : Fld) (hlf : lightF f = true) W (hW : Below w.heap.size w W) => dadd_any oa n cap L hn hnc hl hn30 mx f hlf W (hf.below hW))
  have HNL := Lib.hid (named_len L hl ⟨k, i, nm, vl⟩ hnm)
  have HN := Lib.hid hn
  have HOA := Lib.hid (show ∀ a, oa = some a → L ≠ [] → a.block < w.heap.size from fun a ha hne => by
    cases L with
    | nil => exact absurd rfl hne
    | cons f t =>
      obtain ⟨b, o, e, c, _⟩ := hf 0 f rfl
      rw [ha] at e
      injection e with e
      subst e
      exact World.block_lt_of_cell? _ _ c)
  unfold StepPost3
  have e0 : hStep mx cp L ⟨k, i, nm, vl⟩ = hSt mx cp L ⟨k, i, nm, vl⟩ := by unfold hStep; rw [h0, if_neg (by simp), h1, if_neg (by simp)]
  rw [e0]
  rw [h0] at HCK
  rw [h1] at HIC
  obtain ⟨R, hR⟩ : ∃ R, hSt mx cp L ⟨k, i, nm, vl⟩ = R := ⟨_, rfl⟩
  rw [hR]
  have HS : Hid (R = if (hNamed L ⟨k, i, nm, vl⟩).2 = false then (mx, L, zFl, false, 6) else if k = 0 then (mx, L, (hNamed L ⟨k, i, nm, vl⟩).1, true, 0) else if k = 1 then (mx, addL mx L ⟨(hNamed L ⟨k, i, nm, vl⟩).1.name, vl, false⟩, ⟨(hNamed L ⟨k, i, nm, vl⟩).1.name, vl, false⟩, true, 0) else (mx, L, ⟨(hNamed L ⟨k, i, nm, vl⟩).1.name, vl, decide (k = 3)⟩, true, 0)) := Lib.hid (by rw [← hR]; unfold hSt; rw [if_neg h4])
  have q4 : ((k : Int) == 4) = false := beq_eq_false_iff_ne.2 (by omega)
  have hI0 := (chkI_zero h1).2.1
  have HNM : Hid (hNamed L ⟨k, i, nm, vl⟩ = if i = 0 then (⟨nm, ⟨#[]⟩, false⟩, true) else atF L i) := Lib.hid rfl
  unfold AtPost at HAT
  clear hf hn h0 h1 h4 hk hl hn30 e0 hR
  rw [HNM.out, if_neg hz] at HS HNL
  have q5 : decide (0 < i) = true := decide_eq_true (by omega)
  obtain ⟨⟨⟨a1, a2, a3⟩, a4⟩, hQ⟩ : ∃ Q, atF L i = Q := ⟨_, rfl⟩
  rw [hQ] at HS HNL HAT
  dsimp only at HS HNL HAT
  clear hz hI0 HNM hi hQ
  have HLF : Hid (lightF ⟨a1, vl, false⟩ = true) := Lib.hid (by simp [lightF, hvl]; exact HNL.out)
  have HAD := Lib.hid (HADF.out ⟨a1, vl, false⟩ HLF.out)
  unfold DAddPost at HAD
  dsimp only at HAD HS
  generalize addL mx L ⟨a1, vl, false⟩ = R2 at HAD HS
  clear HADF HLF
  cases a4
  · rw [if_pos rfl] at HS
    have e := HS.out
    subst e
    dsimp only
    clear HS HAD
    go_enter Tryz.func22, Tryz.ntmps22
    go_upto_region 1 with fail
    generalize ((((w.alloc (.cells #[.int .i64 mx, .slice oa n cap, .int .i64 cp] 26)).alloc (.cells #[.int .u8 (k : Int), .int .i64 i, .string nm, .string vl] 63)).alloc (.cells #[.int .i64 0, .slice none 0 0, .int .i64 0] 26)).alloc (.cells #[.string ⟨#[]⟩, .string ⟨#[]⟩, .bool false] 47)) = w1 at HH ⊢
    have c0 := HH.out.st.c0
    have c1 := HH.out.st.c1
    have c2 := HH.out.st.c2
    have x0 := HH.out.it.c0
    have x1 := HH.out.it.c1
    have x2 := HH.out.it.c2
    have x3 := HH.out.it.c3
    go_upto_region 12 with (first | (go_at_call 20; refine (HCK.out _ HH.out.below).mono ?_; rintro e w2 ⟨rfl, hb⟩; replace HH := Lib.hid (HH.out.step hb); clear hb; have c0 := HH.out.st.c0; have c1 := HH.out.st.c1; have c2 := HH.out.st.c2; have x0 := HH.out.it.c0; have x1 := HH.out.it.c1; have x2 := HH.out.it.c2; have x3 := HH.out.it.c3) | (go_at_call 36; refine (HIC.out _).mono ?_; rintro e w2 ⟨rfl, hb⟩; replace HH := Lib.hid (HH.out.step hb); clear hb; have c0 := HH.out.st.c0; have c1 := HH.out.st.c1; have c2 := HH.out.st.c2; have x0 := HH.out.it.c0; have x1 := HH.out.it.c1; have x2 := HH.out.it.c2; have x3 := HH.out.it.c3))
    have HG := Lib.hid (show FRow _ w2.heap.size ⟨nm, ⟨#[]⟩, false⟩ from heap_alloc_new w2 (.cells #[.string nm, .string ⟨#[]⟩, .bool false] 47))
    have HGT := Lib.hid HH.out.lt
    replace HH := Lib.hid (HH.out.step (below_new (.cells #[.string nm, .string ⟨#[]⟩, .bool false] 47)))
    generalize w2.alloc (.cells #[.string nm, .string ⟨#[]⟩, .bool false] 47) = wg at HH HG ⊢
    generalize w2.heap.size = g at HG HGT ⊢
    clear c0 c1 c2 x0 x1 x2 x3
    have c0 := HH.out.st.c0
    have c1 := HH.out.st.c1
    have c2 := HH.out.st.c2
    have x0 := HH.out.it.c0
    have x1 := HH.out.it.c1
    have x2 := HH.out.it.c2
    have x3 := HH.out.it.c3
    go_upto_region 14 with (first | (go_at_call 38; refine (HAT.out _ HH.out.below).mono ?_; rintro e w3 ⟨rfl, hb⟩; replace HH := Lib.hid (HH.out.step hb); replace HG := Lib.hid (HG.out.step hb); clear hb))
    replace HH := Lib.hid (HH.out.step (below_new (.cells #[.string a1, .string a2, .bool a3] 47)))
    generalize w3.alloc (.cells #[.string a1, .string a2, .bool a3] 47) = w4 at HH ⊢
    clear c0 c1 c2 x0 x1 x2 x3
    have c0 := HH.out.st.c0
    have c1 := HH.out.st.c1
    have c2 := HH.out.st.c2
    have x0 := HH.out.it.c0
    have x1 := HH.out.it.c1
    have x2 := HH.out.it.c2
    have x3 := HH.out.it.c3
    have HF2 := Lib.hid ((setRow_other w4 (w.heap.size + 2) (w.heap.size + 3) #[.int .i64 mx, .slice oa n cap, .int .i64 cp] (by omega)).trans HH.out.rf)
    have HR2 := Lib.hid (setRow_heap _ _ _ #[.int .i64 mx, .slice oa n cap, .int .i64 cp] _ _ HH.out.rs)
    go_wp2_with (first | (refine wpList_store_row rfl _ _ _ rfl (w.heap.size + 2) #[.int .i64 mx, .slice oa n cap, .int .i64 cp] rfl rfl _ _ HH.out.rs (by kernel_rfl) rfl (by kernel_rfl) ?_) | (refine wpList_store_row rfl _ _ _ rfl (w.heap.size + 3) #[.string ⟨#[]⟩, .string ⟨#[]⟩, .bool false] rfl rfl _ _ HF2.out (by kernel_rfl) rfl (by kernel_rfl) ?_))
    exact bodyPost_ret (v := .tuple #[.agg #[.int .i64 mx, .slice oa n cap, .int .i64 cp], .agg #[.string ⟨#[]⟩, .string ⟨#[]⟩, .bool false], .bool false, .int .i64 6]) (res_cell22 rfl _ _ (w.heap.size + 2) (w.heap.size + 3) _ _ _ _ (0, 0) (0, 0) _ _ rfl ((setRow_other _ _ _ _ (by omega)).trans HR2.out) Tryz.underlying26 rfl (by kernel_rfl) rfl (setRow_heap _ _ _ _ _ _ HF2.out) Tryz.underlying47 rfl (by kernel_rfl) _ _ rfl rfl) rfl ⟨oa, n, cap, rfl, HN.out, hnc, HFW.out _ (below_row (below_row HH.out.below (by omega) _) (by omega) _), (by simp), below_row (below_row HH.out.below (by omega) _) (by omega) _⟩
  · rw [if_neg (by decide)] at HS
    go_enter Tryz.func22, Tryz.ntmps22
    go_upto_region 1 with fail
    generalize ((((w.alloc (.cells #[.int .i64 mx, .slice oa n cap, .int .i64 cp] 26)).alloc (.cells #[.int .u8 (k : Int), .int .i64 i, .string nm, .string vl] 63)).alloc (.cells #[.int .i64 0, .slice none 0 0, .int .i64 0] 26)).alloc (.cells #[.string ⟨#[]⟩, .string ⟨#[]⟩, .bool false] 47)) = w1 at HH ⊢
    have c0 := HH.out.st.c0
    have c1 := HH.out.st.c1
    have c2 := HH.out.st.c2
    have x0 := HH.out.it.c0
    have x1 := HH.out.it.c1
    have x2 := HH.out.it.c2
    have x3 := HH.out.it.c3
    go_upto_region 12 with (first | (go_at_call 20; refine (HCK.out _ HH.out.below).mono ?_; rintro e w2 ⟨rfl, hb⟩; replace HH := Lib.hid (HH.out.step hb); clear hb; have c0 := HH.out.st.c0; have c1 := HH.out.st.c1; have c2 := HH.out.st.c2; have x0 := HH.out.it.c0; have x1 := HH.out.it.c1; have x2 := HH.out.it.c2; have x3 := HH.out.it.c3) | (go_at_call 36; refine (HIC.out _).mono ?_; rintro e w2 ⟨rfl, hb⟩; replace HH := Lib.hid (HH.out.step hb); clear hb; have c0 := HH.out.st.c0; have c1 := HH.out.st.c1; have c2 := HH.out.st.c2; have x0 := HH.out.it.c0; have x1 := HH.out.it.c1; have x2 := HH.out.it.c2; have x3 := HH.out.it.c3))
    have HG := Lib.hid (show FRow _ w2.heap.size ⟨nm, ⟨#[]⟩, false⟩ from heap_alloc_new w2 (.cells #[.string nm, .string ⟨#[]⟩, .bool false] 47))
    have HGT := Lib.hid HH.out.lt
    replace HH := Lib.hid (HH.out.step (below_new (.cells #[.string nm, .string ⟨#[]⟩, .bool false] 47)))
    generalize w2.alloc (.cells #[.string nm, .string ⟨#[]⟩, .bool false] 47) = wg at HH HG ⊢
    generalize w2.heap.size = g at HG HGT ⊢
    clear c0 c1 c2 x0 x1 x2 x3
    have c0 := HH.out.st.c0
    have c1 := HH.out.st.c1
    have c2 := HH.out.st.c2
    have x0 := HH.out.it.c0
    have x1 := HH.out.it.c1
    have x2 := HH.out.it.c2
    have x3 := HH.out.it.c3
    go_upto_region 14 with (first | (go_at_call 38; refine (HAT.out _ HH.out.below).mono ?_; rintro e w3 ⟨rfl, hb⟩; replace HH := Lib.hid (HH.out.step hb); replace HG := Lib.hid (HG.out.step hb); clear hb))
    have HP := Lib.hid (show FRow _ w3.heap.size ⟨a1, a2, a3⟩ from heap_alloc_new w3 (.cells #[.string a1, .string a2, .bool a3] 47))
    replace HG := Lib.hid (HG.out.alloc (.cells #[.string a1, .string a2, .bool a3] 47))
    replace HH := Lib.hid (HH.out.step (below_new (.cells #[.string a1, .string a2, .bool a3] 47)))
    generalize w3.alloc (.cells #[.string a1, .string a2, .bool a3] 47) = w4 at HH HP HG ⊢
    generalize w3.heap.size = g3 at HP ⊢
    have p0 := HP.out.c0
    have p1 := HP.out.c1
    have p2 := HP.out.c2
    go_upto_region 17 with (first | (refine wpList_store_row rfl _ _ _ rfl g #[.string a1, .string a2, .bool a3] rfl rfl _ _ HG.out (by kernel_rfl) rfl (by kernel_rfl) ?_))
    replace HH := Lib.hid (HH.out.setRow HGT.out #[.string a1, .string a2, .bool a3])
    replace HG := Lib.hid (show FRow _ g ⟨a1, a2, a3⟩ from setRow_heap _ _ _ #[.string a1, .string a2, .bool a3] _ _ HG.out)
    generalize w4.setRow g #[.string a1, .string a2, .bool a3] = w5 at HH HG ⊢
    clear p0 p1 p2 HP c0 c1 c2 x0 x1 x2 x3
    have HNE := Lib.hid (show ∀ a, oa = some a → L ≠ [] → a.block < w.heap.size from HOA.out)
    have y0 := HG.out.c0
    have y1 := HG.out.c1
    have y2 := HG.out.c2
    have c0 := HH.out.st.c0
    have c1 := HH.out.st.c1
    have c2 := HH.out.st.c2
    have x0 := HH.out.it.c0
    have x1 := HH.out.it.c1
    have x2 := HH.out.it.c2
    have x3 := HH.out.it.c3
    by_cases hk0 : k = 0
    · rw [if_pos hk0] at HS
      have q0 : ((k : Int) == 0) = true := by rw [hk0]; rfl
      clear hk0
      go_upto_region 18 with fail
      have HDE := Lib.hid (show De w mx (.slice oa n cap) cp g ⟨a1, a2, a3⟩ _ from ⟨HH.out.st, HG.out, ⟨_, HH.out.rs, rfl⟩, ⟨_, HH.out.rf, rfl⟩, HH.out.below, HH.out.lt, HGT.out⟩)
      refine wp_region_held_drew (S := De w mx (.slice oa n cap) cp g ⟨a1, a2, a3⟩) (by kernel_rfl) HDE.out.drew (fun hHeld => ?_)
      refine wpAnyH_takeD (i := 0) (v := ?_) (some 70) rfl rfl rfl (by kernel_rfl) (by kernel_rfl) (by kernel_rfl) (fun _ _ _ h => h) ?_ (by assumption) ?_
      rotate_left
      · intro W hW
        have c0 := hW.st.c0
        have c1 := hW.st.c1
        have c2 := hW.st.c2
        have y0 := hW.fr.c0
        have y1 := hW.fr.c1
        have y2 := hW.fr.c2
        go_simp
        with_reducible rfl
      try simp only [Act.put, List.setIfInBounds_toArray, List.set_cons_zero, List.set_cons_succ]
      refine wpAnyH_takeD (i := 1) (v := ?_) (some 71) rfl rfl rfl (by kernel_rfl) (by kernel_rfl) (by kernel_rfl) (fun _ _ _ h => h) ?_ (by assumption) ?_
      rotate_left
      · intro W hW
        have c0 := hW.st.c0
        have c1 := hW.st.c1
        have c2 := hW.st.c2
        have y0 := hW.fr.c0
        have y1 := hW.fr.c1
        have y2 := hW.fr.c2
        go_simp
        with_reducible rfl
      try simp only [Act.put, List.setIfInBounds_toArray, List.set_cons_zero, List.set_cons_succ]
      have HDD := Lib.hid HDE.out.drew
      obtain ⟨cs2, hrs, hsz2⟩ := HDD.out.rs
      obtain ⟨cs3, hrf, hsz3⟩ := HDD.out.rf
      have HR2 := Lib.hid (setRow_heap _ _ _ #[.int .i64 mx, .slice oa n cap, .int .i64 cp] _ _ hrs)
      have HF2 := Lib.hid ((setRow_other _ (w.heap.size + 2) (w.heap.size + 3) #[.int .i64 mx, .slice oa n cap, .int .i64 cp] (by omega)).trans hrf)
      have HB5 := Lib.hid HDD.out.below
      refine wpAnyH_store (i := 2) (by kernel_rfl) rfl rfl rfl _ _ _ rfl (w.heap.size + 2) #[.int .i64 mx, .slice oa n cap, .int .i64 cp] rfl rfl 26 cs2 hrs (by kernel_rfl) hsz2 (by kernel_rfl) (hHeld.setRow (.inl rfl) rfl) (fun hHeld => ?_)
      refine wpAnyH_store (i := 3) (by kernel_rfl) rfl rfl rfl _ _ _ rfl (w.heap.size + 3) #[.string a1, .string a2, .bool a3] rfl rfl 47 cs3 HF2.out (by kernel_rfl) hsz3 (by kernel_rfl) (hHeld.setRow (.inr rfl) rfl) (fun hHeld => ?_)
      refine wpAnyH_takeD (i := 4) (v := ?_) (some 6) rfl rfl rfl (by kernel_rfl) (by kernel_rfl) (by kernel_rfl) (fun _ _ _ h => h) ?_ (by assumption) ?_
      rotate_left
      · intro W hW
        go_simp
        with_reducible rfl
      try simp only [Act.put, List.setIfInBounds_toArray, List.set_cons_zero, List.set_cons_succ]
      refine wpAnyH_takeD (i := 5) (v := ?_) (some 7) rfl rfl rfl (by kernel_rfl) (by kernel_rfl) (by kernel_rfl) (fun _ _ _ h => h) ?_ (by assumption) ?_
      rotate_left
      · intro W hW
        go_simp
        with_reducible rfl
      try simp only [Act.put, List.setIfInBounds_toArray, List.set_cons_zero, List.set_cons_succ]
      refine wpAnyH_done (by kernel_rfl) ?_ _
      clear hHeld hrs hrf hsz2 hsz3
      go_wp2_with fail
      exact bodyPost_ret (v := .tuple #[.agg #[.int .i64 mx, .slice oa n cap, .int .i64 cp], .agg #[.string a1, .string a2, .bool a3], .bool true, .int .i64 0]) (res_cell22 rfl _ _ (w.heap.size + 2) (w.heap.size + 3) _ _ _ _ (0, 0) (0, 0) _ _ rfl ((setRow_other _ _ _ _ (by omega)).trans HR2.out) Tryz.underlying26 rfl (by kernel_rfl) rfl (setRow_heap _ _ _ _ _ _ HF2.out) Tryz.underlying47 rfl (by kernel_rfl) _ _ rfl rfl) rfl
        ⟨oa, n, cap, by rw [HS.out], by rw [HS.out]; exact HN.out, hnc, by rw [HS.out]; exact HFW.out _ (below_row (below_row HB5.out (by omega) _) (by omega) _), (by first | exact .inl ⟨rfl, by rw [HS.out]⟩ | (rw [HS.out]; simp) | simp), below_row (below_row HB5.out (by omega) _) (by omega) _⟩
    · rw [if_neg hk0] at HS
      have q0 : ((k : Int) == 0) = false := beq_eq_false_iff_ne.2 (by omega)
      clear hk0
      have q3 : ((k : Int) == 3) = decide (k = 3) := by rw [Bool.eq_iff_iff]; simp; omega
      by_cases hk1 : k = 1
      · rw [if_pos hk1] at HS
        have q1 : ((k : Int) == 1) = true := by rw [hk1]; rfl
        have e3 : decide (k = 3) = false := decide_eq_false (by omega)
        rw [e3] at q3
        clear hk1 e3
        go_upto_region 20 with (first | (refine wpList_store_row rfl _ _ _ rfl g #[.string a1, .string vl, .bool false] rfl rfl _ _ HG.out (by kernel_rfl) rfl (by kernel_rfl) ?_))
        replace HH := Lib.hid (HH.out.setRow HGT.out #[.string a1, .string vl, .bool false])
        replace HG := Lib.hid (show FRow _ g ⟨a1, vl, false⟩ from setRow_heap _ _ _ #[.string a1, .string vl, .bool false] _ _ HG.out)
        generalize World.setRow _ g #[.string a1, .string vl, .bool false] = w5 at HH HG ⊢
        clear c0 c1 c2 x0 x1 x2 x3 y0 y1 y2
        have y0 := HG.out.c0
        have y1 := HG.out.c1
        have y2 := HG.out.c2
        have c0 := HH.out.st.c0
        have c1 := HH.out.st.c1
        have c2 := HH.out.st.c2
        have x0 := HH.out.it.c0
        have x1 := HH.out.it.c1
        have x2 := HH.out.it.c2
        have x3 := HH.out.it.c3
        have z0 := HH.out.st.z 0
        have z1 := HH.out.st.z 1
        go_upto_region 22 with (first | (go_at_call 39; refine (HAD.out _ HH.out.below).mono ?_; rintro e w6 ⟨ob, nb, cb, rfl, hlen, hcb, hf5, hob, hb⟩; have HV := Lib.hid (And.intro hlen (And.intro hcb hf5)); have HOB := Lib.hid (show (ob = oa ∧ R2 = L) ∨ ∀ a, ob = some a → w.heap.size + 3 < a.block from by rcases hob with h | h; exact .inl h; exact .inr (fun a ha => by have h1 := h a ha; have h2 := HH.out.lt; omega)); have HGB := Lib.hid HH.out.below.size; replace HH := Lib.hid (HH.out.step hb); replace HG := Lib.hid (HG.out.step hb); clear hlen hcb hf5 hob hb; have c0 := HH.out.st.c0; have c1 := HH.out.st.c1; (have z0 := HH.out.st.z 0); (have z1 := HH.out.st.z 1)))
        have HFF : Hid (∀ g2, g2 = w.heap.size ∨ g2 = w.heap.size + 2 ∨ g2 = w.heap.size + 3 → R2 ≠ [] → ∀ a, ob = some a → a.block ≠ g2) := Lib.hid (fun g2 hg hne a ha => by
          rcases HOB.out with ⟨e1, e2⟩ | h
          · have := HOA.out a (by rw [← e1]; exact ha) (by rw [← e2]; exact hne)
            omega
          · have := h a ha
            omega)
        have hst7 : SRow 26 ((w6.setCell ⟨w.heap.size, 0, none⟩ (.int .i64 mx)).setCell ⟨w.heap.size, 1, none⟩ (.slice ob nb cb)) w.heap.size mx (.slice ob nb cb) cp :=
          heap_setCell_same _ _ 1 _ _ _ (heap_setCell_same _ _ 0 _ _ (.int .i64 mx) HH.out.st)
        have hoth : ∀ q, q ≠ w.heap.size → ((w6.setCell ⟨w.heap.size, 0, none⟩ (.int .i64 mx)).setCell ⟨w.heap.size, 1, none⟩ (.slice ob nb cb)).heap[q]? = w6.heap[q]? := fun q hq => by
          rw [Below.heap_setCell _ _ _ _ (by simpa using hq), Below.heap_setCell _ _ _ _ (by simpa using hq)]
        have hsize : ((w6.setCell ⟨w.heap.size, 0, none⟩ (.int .i64 mx)).setCell ⟨w.heap.size, 1, none⟩ (.slice ob nb cb)).heap.size = w6.heap.size := by simp [World.setCell]
        have HDX := Lib.hid (show De w mx (.slice ob nb cb) cp g ⟨a1, vl, false⟩ ((w6.setCell ⟨w.heap.size, 0, none⟩ (.int .i64 mx)).setCell ⟨w.heap.size, 1, none⟩ (.slice ob nb cb)) from ⟨hst7, (hoth _ (by have := HGT.out; omega)).trans HG.out, ⟨_, (hoth _ (by omega)).trans HH.out.rs, rfl⟩, ⟨_, (hoth _ (by omega)).trans HH.out.rf, rfl⟩, (HH.out.below.setCell (by simp) _).setCell (by simp) _, by rw [hsize]; exact HH.out.lt, HGT.out⟩)
        have HVX := Lib.hid (show FieldsN ((w6.setCell ⟨w.heap.size, 0, none⟩ (.int .i64 mx)).setCell ⟨w.heap.size, 1, none⟩ (.slice ob nb cb)) ob R2 from fun j f hj => by
          obtain ⟨b, o, ha, h0, h1, h2⟩ := HV.out.2.2 j f hj
          have e := hoth b (HFF.out _ (.inl rfl) (fun h => by rw [h] at hj; cases hj) _ ha)
          exact ⟨b, o, ha, (cell_eq e).trans h0, (cell_eq e).trans h1, (cell_eq e).trans h2⟩)
        clear hst7 hoth hsize z0 z1 y0 y1 y2
        clear c0 c1 c2 x0 x1 x2 x3
        generalize (w6.setCell ⟨w.heap.size, 0, none⟩ (.int .i64 mx)).setCell ⟨w.heap.size, 1, none⟩ (.slice ob nb cb) = w7 at HDX HVX ⊢
        go_upto_region 22 with fail
        have HDE := Lib.hid (show De w mx (.slice ob nb cb) cp g ⟨a1, vl, false⟩ _ from HDX.out)
        refine wp_region_held_drew (S := De w mx (.slice ob nb cb) cp g ⟨a1, vl, false⟩) (by kernel_rfl) HDE.out.drew (fun hHeld => ?_)
        refine wpAnyH_takeD (i := 0) (v := ?_) (some 88) rfl rfl rfl (by kernel_rfl) (by kernel_rfl) (by kernel_rfl) (fun _ _ _ h => h) ?_ (by assumption) ?_
        rotate_left
        · intro W hW
          have c0 := hW.st.c0
          have c1 := hW.st.c1
          have c2 := hW.st.c2
          have y0 := hW.fr.c0
          have y1 := hW.fr.c1
          have y2 := hW.fr.c2
          go_simp
          with_reducible rfl
        try simp only [Act.put, List.setIfInBounds_toArray, List.set_cons_zero, List.set_cons_succ]
        refine wpAnyH_takeD (i := 1) (v := ?_) (some 89) rfl rfl rfl (by kernel_rfl) (by kernel_rfl) (by kernel_rfl) (fun _ _ _ h => h) ?_ (by assumption) ?_
        rotate_left
        · intro W hW
          have c0 := hW.st.c0
          have c1 := hW.st.c1
          have c2 := hW.st.c2
          have y0 := hW.fr.c0
          have y1 := hW.fr.c1
          have y2 := hW.fr.c2
          go_simp
          with_reducible rfl
        try simp only [Act.put, List.setIfInBounds_toArray, List.set_cons_zero, List.set_cons_succ]
        have HDD := Lib.hid HDE.out.drew
        obtain ⟨cs2, hrs, hsz2⟩ := HDD.out.rs
        obtain ⟨cs3, hrf, hsz3⟩ := HDD.out.rf
        have HR2 := Lib.hid (setRow_heap _ _ _ #[.int .i64 mx, .slice ob nb cb, .int .i64 cp] _ _ hrs)
        have HF2 := Lib.hid ((setRow_other _ (w.heap.size + 2) (w.heap.size + 3) #[.int .i64 mx, .slice ob nb cb, .int .i64 cp] (by omega)).trans hrf)
        have HB5 := Lib.hid HDD.out.below
        refine wpAnyH_store (i := 2) (by kernel_rfl) rfl rfl rfl _ _ _ rfl (w.heap.size + 2) #[.int .i64 mx, .slice ob nb cb, .int .i64 cp] rfl rfl 26 cs2 hrs (by kernel_rfl) hsz2 (by kernel_rfl) (hHeld.setRow (.inl rfl) rfl) (fun hHeld => ?_)
        refine wpAnyH_store (i := 3) (by kernel_rfl) rfl rfl rfl _ _ _ rfl (w.heap.size + 3) #[.string a1, .string vl, .bool false] rfl rfl 47 cs3 HF2.out (by kernel_rfl) hsz3 (by kernel_rfl) (hHeld.setRow (.inr rfl) rfl) (fun hHeld => ?_)
        refine wpAnyH_takeD (i := 4) (v := ?_) (some 6) rfl rfl rfl (by kernel_rfl) (by kernel_rfl) (by kernel_rfl) (fun _ _ _ h => h) ?_ (by assumption) ?_
        rotate_left
        · intro W hW
          go_simp
          with_reducible rfl
        try simp only [Act.put, List.setIfInBounds_toArray, List.set_cons_zero, List.set_cons_succ]
        refine wpAnyH_takeD (i := 5) (v := ?_) (some 7) rfl rfl rfl (by kernel_rfl) (by kernel_rfl) (by kernel_rfl) (fun _ _ _ h => h) ?_ (by assumption) ?_
        rotate_left
        · intro W hW
          go_simp
          with_reducible rfl
        try simp only [Act.put, List.setIfInBounds_toArray, List.set_cons_zero, List.set_cons_succ]
        refine wpAnyH_done (by kernel_rfl) ?_ _
        clear hHeld hrs hrf hsz2 hsz3
        go_wp2_with fail
        exact bodyPost_ret (v := .tuple #[.agg #[.int .i64 mx, .slice ob nb cb, .int .i64 cp], .agg #[.string a1, .string vl, .bool false], .bool true, .int .i64 0]) (res_cell22 rfl _ _ (w.heap.size + 2) (w.heap.size + 3) _ _ _ _ (0, 0) (0, 0) _ _ rfl ((setRow_other _ _ _ _ (by omega)).trans HR2.out) Tryz.underlying26 rfl (by kernel_rfl) rfl (setRow_heap _ _ _ _ _ _ HF2.out) Tryz.underlying47 rfl (by kernel_rfl) _ _ rfl rfl) rfl
          ⟨ob, nb, cb, by rw [HS.out], by rw [HS.out]; exact HV.out.1, HV.out.2.1, by rw [HS.out]; exact (FieldsN.setRow (show FieldsN _ ob R2 from HVX.out) (HFF.out _ (.inr (.inl rfl))) _).setRow (HFF.out _ (.inr (.inr rfl))) _, (by rw [HS.out]; rcases HOB.out with h | h; exact .inl h; exact .inr (fun a ha => by have := h a ha; omega)), below_row (below_row HB5.out (by omega) _) (by omega) _⟩
      · rw [if_neg hk1] at HS
        have q1 : ((k : Int) == 1) = false := beq_eq_false_iff_ne.2 (by omega)
        clear hk1
        generalize decide (k = 3) = b3 at q3 HS
        go_upto_region 20 with (first | (refine wpList_store_row rfl _ _ _ rfl g #[.string a1, .string vl, .bool b3] rfl rfl _ _ HG.out (by kernel_rfl) rfl (by kernel_rfl) ?_))
        replace HH := Lib.hid (HH.out.setRow HGT.out #[.string a1, .string vl, .bool b3])
        replace HG := Lib.hid (show FRow _ g ⟨a1, vl, b3⟩ from setRow_heap _ _ _ #[.string a1, .string vl, .bool b3] _ _ HG.out)
        generalize World.setRow _ g #[.string a1, .string vl, .bool b3] = w5 at HH HG ⊢
        clear c0 c1 c2 x0 x1 x2 x3 y0 y1 y2
        have y0 := HG.out.c0
        have y1 := HG.out.c1
        have y2 := HG.out.c2
        have c0 := HH.out.st.c0
        have c1 := HH.out.st.c1
        have c2 := HH.out.st.c2
        have x0 := HH.out.it.c0
        have x1 := HH.out.it.c1
        have x2 := HH.out.it.c2
        have x3 := HH.out.it.c3
        go_upto_region 22 with fail
        have HDE := Lib.hid (show De w mx (.slice oa n cap) cp g ⟨a1, vl, b3⟩ _ from ⟨HH.out.st, HG.out, ⟨_, HH.out.rs, rfl⟩, ⟨_, HH.out.rf, rfl⟩, HH.out.below, HH.out.lt, HGT.out⟩)
        refine wp_region_held_drew (S := De w mx (.slice oa n cap) cp g ⟨a1, vl, b3⟩) (by kernel_rfl) HDE.out.drew (fun hHeld => ?_)
        refine wpAnyH_takeD (i := 0) (v := ?_) (some 88) rfl rfl rfl (by kernel_rfl) (by kernel_rfl) (by kernel_rfl) (fun _ _ _ h => h) ?_ (by assumption) ?_
        rotate_left
        · intro W hW
          have c0 := hW.st.c0
          have c1 := hW.st.c1
          have c2 := hW.st.c2
          have y0 := hW.fr.c0
          have y1 := hW.fr.c1
          have y2 := hW.fr.c2
          go_simp
          with_reducible rfl
        try simp only [Act.put, List.setIfInBounds_toArray, List.set_cons_zero, List.set_cons_succ]
        refine wpAnyH_takeD (i := 1) (v := ?_) (some 89) rfl rfl rfl (by kernel_rfl) (by kernel_rfl) (by kernel_rfl) (fun _ _ _ h => h) ?_ (by assumption) ?_
        rotate_left
        · intro W hW
          have c0 := hW.st.c0
          have c1 := hW.st.c1
          have c2 := hW.st.c2
          have y0 := hW.fr.c0
          have y1 := hW.fr.c1
          have y2 := hW.fr.c2
          go_simp
          with_reducible rfl
        try simp only [Act.put, List.setIfInBounds_toArray, List.set_cons_zero, List.set_cons_succ]
        have HDD := Lib.hid HDE.out.drew
        obtain ⟨cs2, hrs, hsz2⟩ := HDD.out.rs
        obtain ⟨cs3, hrf, hsz3⟩ := HDD.out.rf
        have HR2 := Lib.hid (setRow_heap _ _ _ #[.int .i64 mx, .slice oa n cap, .int .i64 cp] _ _ hrs)
        have HF2 := Lib.hid ((setRow_other _ (w.heap.size + 2) (w.heap.size + 3) #[.int .i64 mx, .slice oa n cap, .int .i64 cp] (by omega)).trans hrf)
        have HB5 := Lib.hid HDD.out.below
        refine wpAnyH_store (i := 2) (by kernel_rfl) rfl rfl rfl _ _ _ rfl (w.heap.size + 2) #[.int .i64 mx, .slice oa n cap, .int .i64 cp] rfl rfl 26 cs2 hrs (by kernel_rfl) hsz2 (by kernel_rfl) (hHeld.setRow (.inl rfl) rfl) (fun hHeld => ?_)
        refine wpAnyH_store (i := 3) (by kernel_rfl) rfl rfl rfl _ _ _ rfl (w.heap.size + 3) #[.string a1, .string vl, .bool b3] rfl rfl 47 cs3 HF2.out (by kernel_rfl) hsz3 (by kernel_rfl) (hHeld.setRow (.inr rfl) rfl) (fun hHeld => ?_)
        refine wpAnyH_takeD (i := 4) (v := ?_) (some 6) rfl rfl rfl (by kernel_rfl) (by kernel_rfl) (by kernel_rfl) (fun _ _ _ h => h) ?_ (by assumption) ?_
        rotate_left
        · intro W hW
          go_simp
          with_reducible rfl
        try simp only [Act.put, List.setIfInBounds_toArray, List.set_cons_zero, List.set_cons_succ]
        refine wpAnyH_takeD (i := 5) (v := ?_) (some 7) rfl rfl rfl (by kernel_rfl) (by kernel_rfl) (by kernel_rfl) (fun _ _ _ h => h) ?_ (by assumption) ?_
        rotate_left
        · intro W hW
          go_simp
          with_reducible rfl
        try simp only [Act.put, List.setIfInBounds_toArray, List.set_cons_zero, List.set_cons_succ]
        refine wpAnyH_done (by kernel_rfl) ?_ _
        clear hHeld hrs hrf hsz2 hsz3
        go_wp2_with fail
        exact bodyPost_ret (v := .tuple #[.agg #[.int .i64 mx, .slice oa n cap, .int .i64 cp], .agg #[.string a1, .string vl, .bool b3], .bool true, .int .i64 0]) (res_cell22 rfl _ _ (w.heap.size + 2) (w.heap.size + 3) _ _ _ _ (0, 0) (0, 0) _ _ rfl ((setRow_other _ _ _ _ (by omega)).trans HR2.out) Tryz.underlying26 rfl (by kernel_rfl) rfl (setRow_heap _ _ _ _ _ _ HF2.out) Tryz.underlying47 rfl (by kernel_rfl) _ _ rfl rfl) rfl
          ⟨oa, n, cap, by rw [HS.out], by rw [HS.out]; exact HN.out, hnc, by rw [HS.out]; exact HFW.out _ (below_row (below_row HB5.out (by omega) _) (by omega) _), (by first | exact .inl ⟨rfl, by rw [HS.out]⟩ | (rw [HS.out]; simp) | simp), below_row (below_row HB5.out (by omega) _) (by omega) _⟩
/-- And where the list lies. -/
theorem dstepP_any (mx cp : Int) (oa : Option Addr) (n cap : Nat) (L : List Fld) (hn : L.length = n) (hnc : n ≤ cap) (hl : ∀ f ∈ L, lightF f = true) (hn30 : n ≤ 1000) (k : Nat) (hk : k < 256) (i : Int) (nm vl : ByteArray) (hi : (Lit.int .i64 i).wf = true) (hvl : vl.size ≤ 40000) (hnm : nm.size ≤ 40000) (w : World) (hf : FieldsN w oa L) :
    Calls Tryz.prog 22 #[.agg #[.int .i64 mx, .slice oa n cap, .int .i64 cp], .agg #[.int .u8 (k : Int), .int .i64 i, .string nm, .string vl]] w (StepPost3 oa mx cp L ⟨k, i, nm, vl⟩ w) := by
  by_cases h0 : hchk mx cp L = 0
  · by_cases h1 : chkI ⟨k, i, nm, vl⟩ = 0
    · by_cases h4 : k = 4
      · exact dstep_four mx cp oa n cap L hn hnc hl hn30 k hk i nm vl hi hvl hnm w hf h0 h1 h4
      · by_cases hz : i = 0
        · exact dstep_zero mx cp oa n cap L hn hnc hl hn30 k hk i nm vl hi hvl hnm w hf h0 h1 h4 hz
        · exact dstep_place mx cp oa n cap L hn hnc hl hn30 k hk i nm vl hi hvl hnm w hf h0 h1 h4 hz
    · exact dstep_no mx cp oa n cap L hn hnc hl hn30 k hk i nm vl hi hvl hnm w hf (.inr h1)
  · exact dstep_no mx cp oa n cap L hn hnc hl hn30 k hk i nm vl hi hvl hnm w hf (.inl h0)
theorem dstep_any (mx cp : Int) (oa : Option Addr) (n cap : Nat) (L : List Fld) (hn : L.length = n) (hnc : n ≤ cap) (hl : ∀ f ∈ L, lightF f = true) (hn30 : n ≤ 1000) (k : Nat) (hk : k < 256) (i : Int) (nm vl : ByteArray) (hi : (Lit.int .i64 i).wf = true) (hvl : vl.size ≤ 40000) (hnm : nm.size ≤ 40000) (w : World) (hf : FieldsN w oa L) :
    Calls Tryz.prog 22 #[.agg #[.int .i64 mx, .slice oa n cap, .int .i64 cp], .agg #[.int .u8 (k : Int), .int .i64 i, .string nm, .string vl]] w (StepPost2 mx cp L ⟨k, i, nm, vl⟩ w) :=
  (dstepP_any mx cp oa n cap L hn hnc hl hn30 k hk i nm vl hi hvl hnm w hf).mono (by rintro e w2 ⟨ob, nb, cb, h1, h2, h3, h4, _, h6⟩; exact ⟨ob, nb, cb, h1, h2, h3, h4, h6⟩)
end Go.Proofs.YteceinojmdgmeaaGreat

