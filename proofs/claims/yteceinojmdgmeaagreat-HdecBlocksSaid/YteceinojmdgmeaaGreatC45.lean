/- footmanref06.Step. -/
import Derived.Test.YteceinojmdgmeaaGreatC31
import Derived.Test.YteceinojmdgmeaaGreatC33
import Derived.Test.YteceinojmdgmeaaGreatC37
import Derived.Test.YteceinojmdgmeaaGreatC42
import Derived.Test.YteceinojmdgmeaaGreatC44
namespace Go.Proofs.YteceinojmdgmeaaGreat
open Go.RowKit
set_option linter.unusedVariables false
set_option linter.unusedSimpArgs false

theorem chkI_zero {k : Nat} {i : Int} {nm vl : ByteArray} (h : chkI ⟨k, i, nm, vl⟩ = 0) : k ≤ 4 ∧ 0 ≤ i ∧ i ≤ 268435455 ∧ nm.size ≤ 4096 ∧ vl.size ≤ 4096 := by
  unfold chkI at h
  dsimp only at h
  by_cases h1 : 4 < k
  · rw [if_pos h1] at h; cases h
  · rw [if_neg h1] at h
    by_cases h2 : i < 0 ∨ 268435455 < i ∨ (k = 0 ∧ i = 0)
    · rw [if_pos h2] at h; cases h
    · rw [if_neg h2] at h
      by_cases h3 : extraI ⟨k, i, nm, vl⟩ = true
      · rw [if_pos h3] at h; cases h
      · rw [if_neg h3] at h
        by_cases h4 : 4096 < nm.size ∨ 4096 < vl.size
        · rw [if_pos h4] at h; cases h
        · omega
/-- What stands at the beginning of the document's Step. -/
structure Dh (w W : World) (mx cp : Int) (v : Value) (k : Nat) (i : Int) (nm vl : ByteArray) : Prop where
  st : SRow 26 W w.heap.size mx v cp
  it : KRow W (w.heap.size + 1) k i nm vl
  rs : W.heap[w.heap.size + 2]? = some (.cells #[.int .i64 0, .slice none 0 0, .int .i64 0] 26 (0, 0))
  rf : W.heap[w.heap.size + 3]? = some (.cells zF 47 (0, 0))
  below : Below w.heap.size w W
  lt : w.heap.size + 3 < W.heap.size
theorem Dh.step {w W W' : World} {mx cp : Int} {v : Value} {k : Nat} {i : Int} {nm vl : ByteArray} (h : Dh w W mx cp v k i nm vl) (hb : Below W.heap.size W W') : Dh w W' mx cp v k i nm vl :=
  ⟨h.st.step hb, h.it.step hb, (hb.block _ (by have := h.lt; omega)).trans h.rs, (hb.block _ h.lt).trans h.rf, bs_hd h.below hb, Nat.lt_of_lt_of_le h.lt hb.size⟩
theorem Dh.stepB {w W W' : World} {mx cp : Int} {v : Value} {k : Nat} {i : Int} {nm vl : ByteArray} (h : Dh w W mx cp v k i nm vl) (hb : Below (w.heap.size + 4) W W') : Dh w W' mx cp v k i nm vl :=
  ⟨(hb.block _ (by omega)).trans h.st, (hb.block _ (by omega)).trans h.it, (hb.block _ (by omega)).trans h.rs, (hb.block _ (by omega)).trans h.rf, h.below.trans (hb.mono (by omega)), Nat.lt_of_lt_of_le h.lt hb.size⟩
theorem four3 (w : World) (o1 o2 o3 o4 : Obj) : ((((w.alloc o1).alloc o2).alloc o3).alloc o4).heap[w.heap.size + 3]? = some o4 := by
  have := heap_alloc_new (((w.alloc o1).alloc o2).alloc o3) o4
  simpa using this
theorem Dh.new (w : World) (mx cp : Int) (v : Value) (k : Nat) (i : Int) (nm vl : ByteArray) : Dh w ((((w.alloc (.cells #[.int .i64 mx, v, .int .i64 cp] 26)).alloc (.cells #[.int .u8 (k : Int), .int .i64 i, .string nm, .string vl] 63)).alloc (.cells #[.int .i64 0, .slice none 0 0, .int .i64 0] 26)).alloc (.cells #[.string ⟨#[]⟩, .string ⟨#[]⟩, .bool false] 47)) mx cp v k i nm vl := by
  have b1 := below_new (W := w) (.cells #[.int .i64 mx, v, .int .i64 cp] 26)
  have h3 := fun o => below_new (W := ((w.alloc (.cells #[.int .i64 mx, v, .int .i64 cp] 26)).alloc (.cells #[.int .u8 (k : Int), .int .i64 i, .string nm, .string vl] 63)).alloc (.cells #[.int .i64 0, .slice none 0 0, .int .i64 0] 26)) o
  exact ⟨((h3 _).block _ (by simp; omega)).trans (three0 _ _ _ _), ((h3 _).block _ (by simp)).trans (three1 _ _ _ _), ((h3 _).block _ (by simp)).trans (three2 _ _ _ _), four3 _ _ _ _ _, bs_hd (bs_hd (bs_hd b1 (below_new _)) (below_new _)) (below_new _), by simp⟩
set_option maxRecDepth 100000 in
set_option maxHeartbeats 4000000 in
theorem dstep_no (mx cp : Int) (oa : Option Addr) (n cap : Nat) (L : List Fld) (hn : L.length = n) (hnc : n ≤ cap) (hl : ∀ f ∈ L, lightF f = true) (hn30 : n ≤ 1000) (k : Nat) (hk : k < 256) (i : Int) (nm vl : ByteArray) (hi : (Lit.int .i64 i).wf = true) (hvl : vl.size ≤ 40000) (hnm : nm.size ≤ 40000) (w : World) (hf : FieldsN w oa L)
    (h : hchk mx cp L ≠ 0 ∨ chkI ⟨k, i, nm, vl⟩ ≠ 0) :
    Calls Tryz.prog 22 #[.agg #[.int .i64 mx, .slice oa n cap, .int .i64 cp], .agg #[.int .u8 (k : Int), .int .i64 i, .string nm, .string vl]] w (StepPost3 oa mx cp L ⟨k, i, nm, vl⟩ w) := by
  have HH := Lib.hid (Dh.new w mx cp (.slice oa n cap) k i nm vl)
  have HFW := Lib.hid (show ∀ W, Below w.heap.size w W → FieldsN W oa L from fun W hW => hf.below hW)
  have HCK := Lib.hid (fun W (hW : Below w.heap.size w W) => dcheck6_any mx cp oa n cap L hn hl hn30 W (hf.below hW))
  have HIC := Lib.hid (fun W => dcheck_any k i nm vl hk W)
  have HN := Lib.hid hn
  unfold StepPost3
  have HS : Hid (hStep mx cp L ⟨k, i, nm, vl⟩ = if hchk mx cp L ≠ 0 then (mx, L, zFl, false, hchk mx cp L) else if chkI ⟨k, i, nm, vl⟩ ≠ 0 then (mx, L, zFl, false, (chkI ⟨k, i, nm, vl⟩ : Nat)) else hSt mx cp L ⟨k, i, nm, vl⟩) := Lib.hid rfl
  generalize hStep mx cp L ⟨k, i, nm, vl⟩ = R at HS ⊢
  generalize chkI ⟨k, i, nm, vl⟩ = ci at HIC HS h
  generalize hchk mx cp L = hc at HCK HS h
  clear hf hn
  by_cases h0 : hc = 0
  · subst h0
    have h1 : ci ≠ 0 := by rcases h with h | h; exact absurd rfl h; exact h
    rw [if_neg (by simp), if_pos h1] at HS
    have q1 : ((ci : Int) == 0) = false := beq_eq_false_iff_ne.2 (by omega)
    have e := HS.out
    subst e
    dsimp only
    clear HS h h1
    go_enter Tryz.func22, Tryz.ntmps22
    go_upto_region 1 with fail
    generalize ((((w.alloc (.cells #[.int .i64 mx, .slice oa n cap, .int .i64 cp] 26)).alloc (.cells #[.int .u8 (k : Int), .int .i64 i, .string nm, .string vl] 63)).alloc (.cells #[.int .i64 0, .slice none 0 0, .int .i64 0] 26)).alloc (.cells #[.string ⟨#[]⟩, .string ⟨#[]⟩, .bool false] 47)) = w1 at HH ⊢
    have c0 := HH.out.st.c0
    have c1 := HH.out.st.c1
    have c2 := HH.out.st.c2
    have x0 := HH.out.it.c0
    have x1 := HH.out.it.c1
    have x2 := HH.out.it.c2
    have x3 := HH.out.it.c3
    go_upto_region 5 with (first | (go_at_call 20; refine (HCK.out _ HH.out.below).mono ?_; rintro e w2 ⟨rfl, hb⟩; replace HH := Lib.hid (HH.out.step hb); clear hb; have c0 := HH.out.st.c0; have c1 := HH.out.st.c1; have c2 := HH.out.st.c2; have x0 := HH.out.it.c0; have x1 := HH.out.it.c1; have x2 := HH.out.it.c2; have x3 := HH.out.it.c3) | (go_at_call 36; refine (HIC.out _).mono ?_; rintro e w2 ⟨rfl, hb⟩; replace HH := Lib.hid (HH.out.step hb); clear hb; have c0 := HH.out.st.c0; have c1 := HH.out.st.c1; have c2 := HH.out.st.c2; have x0 := HH.out.it.c0; have x1 := HH.out.it.c1; have x2 := HH.out.it.c2; have x3 := HH.out.it.c3))
    have HF2 := Lib.hid ((setRow_other w2 (w.heap.size + 2) (w.heap.size + 3) #[.int .i64 mx, .slice oa n cap, .int .i64 cp] (by omega)).trans HH.out.rf)
    have HR2 := Lib.hid (setRow_heap _ _ _ #[.int .i64 mx, .slice oa n cap, .int .i64 cp] _ _ HH.out.rs)
    go_wp2_with (first | (refine wpList_store_row rfl _ _ _ rfl (w.heap.size + 2) #[.int .i64 mx, .slice oa n cap, .int .i64 cp] rfl rfl _ _ HH.out.rs (by kernel_rfl) rfl (by kernel_rfl) ?_) | (refine wpList_store_row rfl _ _ _ rfl (w.heap.size + 3) #[.string ⟨#[]⟩, .string ⟨#[]⟩, .bool false] rfl rfl _ _ HF2.out (by kernel_rfl) rfl (by kernel_rfl) ?_))
    exact bodyPost_ret (v := .tuple #[.agg #[.int .i64 mx, .slice oa n cap, .int .i64 cp], .agg #[.string ⟨#[]⟩, .string ⟨#[]⟩, .bool false], .bool false, .int .i64 (ci : Nat)]) (res_cell22 rfl _ _ (w.heap.size + 2) (w.heap.size + 3) _ _ _ _ (0, 0) (0, 0) _ _ rfl ((setRow_other _ _ _ _ (by omega)).trans HR2.out) Tryz.underlying26 rfl (by kernel_rfl) rfl (setRow_heap _ _ _ _ _ _ HF2.out) Tryz.underlying47 rfl (by kernel_rfl) _ _ rfl rfl) rfl ⟨oa, n, cap, rfl, HN.out, hnc, HFW.out _ (below_row (below_row HH.out.below (by omega) _) (by omega) _), (by simp), below_row (below_row HH.out.below (by omega) _) (by omega) _⟩
  · rw [if_pos h0] at HS
    have q1 : (hc == 0) = false := beq_eq_false_iff_ne.2 h0
    have e := HS.out
    subst e
    dsimp only
    clear HS h h0
    go_enter Tryz.func22, Tryz.ntmps22
    go_upto_region 1 with fail
    generalize ((((w.alloc (.cells #[.int .i64 mx, .slice oa n cap, .int .i64 cp] 26)).alloc (.cells #[.int .u8 (k : Int), .int .i64 i, .string nm, .string vl] 63)).alloc (.cells #[.int .i64 0, .slice none 0 0, .int .i64 0] 26)).alloc (.cells #[.string ⟨#[]⟩, .string ⟨#[]⟩, .bool false] 47)) = w1 at HH ⊢
    have c0 := HH.out.st.c0
    have c1 := HH.out.st.c1
    have c2 := HH.out.st.c2
    have x0 := HH.out.it.c0
    have x1 := HH.out.it.c1
    have x2 := HH.out.it.c2
    have x3 := HH.out.it.c3
    go_upto_region 5 with (first | (go_at_call 20; refine (HCK.out _ HH.out.below).mono ?_; rintro e w2 ⟨rfl, hb⟩; replace HH := Lib.hid (HH.out.step hb); clear hb; have c0 := HH.out.st.c0; have c1 := HH.out.st.c1; have c2 := HH.out.st.c2; have x0 := HH.out.it.c0; have x1 := HH.out.it.c1; have x2 := HH.out.it.c2; have x3 := HH.out.it.c3))
    have HF2 := Lib.hid ((setRow_other w2 (w.heap.size + 2) (w.heap.size + 3) #[.int .i64 mx, .slice oa n cap, .int .i64 cp] (by omega)).trans HH.out.rf)
    have HR2 := Lib.hid (setRow_heap _ _ _ #[.int .i64 mx, .slice oa n cap, .int .i64 cp] _ _ HH.out.rs)
    go_wp2_with (first | (refine wpList_store_row rfl _ _ _ rfl (w.heap.size + 2) #[.int .i64 mx, .slice oa n cap, .int .i64 cp] rfl rfl _ _ HH.out.rs (by kernel_rfl) rfl (by kernel_rfl) ?_) | (refine wpList_store_row rfl _ _ _ rfl (w.heap.size + 3) #[.string ⟨#[]⟩, .string ⟨#[]⟩, .bool false] rfl rfl _ _ HF2.out (by kernel_rfl) rfl (by kernel_rfl) ?_))
    exact bodyPost_ret (v := .tuple #[.agg #[.int .i64 mx, .slice oa n cap, .int .i64 cp], .agg #[.string ⟨#[]⟩, .string ⟨#[]⟩, .bool false], .bool false, .int .i64 hc]) (res_cell22 rfl _ _ (w.heap.size + 2) (w.heap.size + 3) _ _ _ _ (0, 0) (0, 0) _ _ rfl ((setRow_other _ _ _ _ (by omega)).trans HR2.out) Tryz.underlying26 rfl (by kernel_rfl) rfl (setRow_heap _ _ _ _ _ _ HF2.out) Tryz.underlying47 rfl (by kernel_rfl) _ _ rfl rfl) rfl ⟨oa, n, cap, rfl, HN.out, hnc, HFW.out _ (below_row (below_row HH.out.below (by omega) _) (by omega) _), (by simp), below_row (below_row HH.out.below (by omega) _) (by omega) _⟩
set_option maxRecDepth 100000 in
set_option maxHeartbeats 4000000 in
theorem dstep_four (mx cp : Int) (oa : Option Addr) (n cap : Nat) (L : List Fld) (hn : L.length = n) (hnc : n ≤ cap) (hl : ∀ f ∈ L, lightF f = true) (hn30 : n ≤ 1000) (k : Nat) (hk : k < 256) (i : Int) (nm vl : ByteArray) (hi : (Lit.int .i64 i).wf = true) (hvl : vl.size ≤ 40000) (hnm : nm.size ≤ 40000) (w : World) (hf : FieldsN w oa L)
    (h0 : hchk mx cp L = 0) (h1 : chkI ⟨k, i, nm, vl⟩ = 0) (h4 : k = 4) :
    Calls Tryz.prog 22 #[.agg #[.int .i64 mx, .slice oa n cap, .int .i64 cp], .agg #[.int .u8 (k : Int), .int .i64 i, .string nm, .string vl]] w (StepPost3 oa mx cp L ⟨k, i, nm, vl⟩ w) := by
  have HH := Lib.hid (Dh.new w mx cp (.slice oa n cap) k i nm vl)
  have HFW := Lib.hid (show ∀ W, Below w.heap.size w W → FieldsN W oa L from fun W hW => hf.below hW)
  have HCK := Lib.hid (fun W (hW : Below w.heap.size w W) => dcheck6_any mx cp oa n cap L hn hl hn30 W (hf.below hW))
  have HIC := Lib.hid (fun W => dcheck_any k i nm vl hk W)
  have HN := Lib.hid hn
  unfold StepPost3
  have e0 : hStep mx cp L ⟨k, i, nm, vl⟩ = hSt mx cp L ⟨k, i, nm, vl⟩ := by unfold hStep; rw [h0, if_neg (by simp), h1, if_neg (by simp)]
  rw [e0]
  rw [h0] at HCK
  rw [h1] at HIC
  have HRZ := Lib.hid (fun W (hW : Below w.heap.size w W) => dresize_any oa n cap L hn hnc hl hn30 mx i W (hf.below hW))
  have HOA := Lib.hid (show ∀ a, oa = some a → L ≠ [] → a.block < w.heap.size from fun a ha hne => by
    cases L with
    | nil => exact absurd rfl hne
    | cons f t =>
      obtain ⟨b, o, e, c, _⟩ := hf 0 f rfl
      rw [ha] at e
      injection e with e
      subst e
      exact World.block_lt_of_cell? _ _ c)
  unfold DResPost at HRZ
  have HS : Hid (hSt mx cp L ⟨k, i, nm, vl⟩ = if cp < i then (mx, L, zFl, false, 8) else (resM mx i L, resL mx i L, zFl, false, resE mx i L)) := Lib.hid (by unfold hSt; rw [if_pos h4])
  have q4 : ((k : Int) == 4) = true := by rw [h4]; rfl
  have HER : Hid (¬ cp < i → resE mx i L = 0) := Lib.hid (fun hci => by
    have hz := hchk_eq mx cp L
    rw [h0] at hz
    by_cases hk0 : chkN mx L ≠ 0
    · rw [if_pos hk0] at hz; exact absurd hz.symm hk0
    · rw [if_neg hk0] at hz
      have hi0 := (chkI_zero h1).2.1
      unfold resE
      rw [if_neg hk0, if_neg]
      by_cases hc : cp < 0 ∨ 4096 < cp ∨ cp < mx
      · rw [if_pos hc] at hz; cases hz
      · omega)
  clear hf hn h0 h1 h4 hk hl hn30 e0
  by_cases hc : cp < i
  · have q : decide (cp < i) = true := decide_eq_true hc
    rw [if_pos hc] at HS
    rw [HS.out]
    dsimp only
    clear HS hc HER
    go_enter Tryz.func22, Tryz.ntmps22
    go_upto_region 1 with fail
    generalize ((((w.alloc (.cells #[.int .i64 mx, .slice oa n cap, .int .i64 cp] 26)).alloc (.cells #[.int .u8 (k : Int), .int .i64 i, .string nm, .string vl] 63)).alloc (.cells #[.int .i64 0, .slice none 0 0, .int .i64 0] 26)).alloc (.cells #[.string ⟨#[]⟩, .string ⟨#[]⟩, .bool false] 47)) = w1 at HH ⊢
    have c0 := HH.out.st.c0
    have c1 := HH.out.st.c1
    have c2 := HH.out.st.c2
    have x0 := HH.out.it.c0
    have x1 := HH.out.it.c1
    have x2 := HH.out.it.c2
    have x3 := HH.out.it.c3
    go_upto_region 8 with (first | (go_at_call 20; refine (HCK.out _ HH.out.below).mono ?_; rintro e w2 ⟨rfl, hb⟩; replace HH := Lib.hid (HH.out.step hb); clear hb; have c0 := HH.out.st.c0; have c1 := HH.out.st.c1; have c2 := HH.out.st.c2; have x0 := HH.out.it.c0; have x1 := HH.out.it.c1; have x2 := HH.out.it.c2; have x3 := HH.out.it.c3) | (go_at_call 36; refine (HIC.out _).mono ?_; rintro e w2 ⟨rfl, hb⟩; replace HH := Lib.hid (HH.out.step hb); clear hb; have c0 := HH.out.st.c0; have c1 := HH.out.st.c1; have c2 := HH.out.st.c2; have x0 := HH.out.it.c0; have x1 := HH.out.it.c1; have x2 := HH.out.it.c2; have x3 := HH.out.it.c3))
    have HF2 := Lib.hid ((setRow_other w2 (w.heap.size + 2) (w.heap.size + 3) #[.int .i64 mx, .slice oa n cap, .int .i64 cp] (by omega)).trans HH.out.rf)
    have HR2 := Lib.hid (setRow_heap _ _ _ #[.int .i64 mx, .slice oa n cap, .int .i64 cp] _ _ HH.out.rs)
    go_wp2_with (first | (refine wpList_store_row rfl _ _ _ rfl (w.heap.size + 2) #[.int .i64 mx, .slice oa n cap, .int .i64 cp] rfl rfl _ _ HH.out.rs (by kernel_rfl) rfl (by kernel_rfl) ?_) | (refine wpList_store_row rfl _ _ _ rfl (w.heap.size + 3) #[.string ⟨#[]⟩, .string ⟨#[]⟩, .bool false] rfl rfl _ _ HF2.out (by kernel_rfl) rfl (by kernel_rfl) ?_))
    exact bodyPost_ret (v := .tuple #[.agg #[.int .i64 mx, .slice oa n cap, .int .i64 cp], .agg #[.string ⟨#[]⟩, .string ⟨#[]⟩, .bool false], .bool false, .int .i64 8]) (res_cell22 rfl _ _ (w.heap.size + 2) (w.heap.size + 3) _ _ _ _ (0, 0) (0, 0) _ _ rfl ((setRow_other _ _ _ _ (by omega)).trans HR2.out) Tryz.underlying26 rfl (by kernel_rfl) rfl (setRow_heap _ _ _ _ _ _ HF2.out) Tryz.underlying47 rfl (by kernel_rfl) _ _ rfl rfl) rfl ⟨oa, n, cap, rfl, HN.out, hnc, HFW.out _ (below_row (below_row HH.out.below (by omega) _) (by omega) _), (by simp), below_row (below_row HH.out.below (by omega) _) (by omega) _⟩
  · have q : decide (cp < i) = false := decide_eq_false hc
    rw [if_neg hc] at HS
    rw [HS.out]
    dsimp only
    rw [HER.out hc] at HRZ ⊢
    clear HS hc HER
    generalize resM mx i L = mr at HRZ ⊢
    generalize resL mx i L = R2 at HRZ ⊢
    go_enter Tryz.func22, Tryz.ntmps22
    go_upto_region 1 with fail
    generalize ((((w.alloc (.cells #[.int .i64 mx, .slice oa n cap, .int .i64 cp] 26)).alloc (.cells #[.int .u8 (k : Int), .int .i64 i, .string nm, .string vl] 63)).alloc (.cells #[.int .i64 0, .slice none 0 0, .int .i64 0] 26)).alloc (.cells #[.string ⟨#[]⟩, .string ⟨#[]⟩, .bool false] 47)) = w1 at HH ⊢
    have c0 := HH.out.st.c0
    have c1 := HH.out.st.c1
    have c2 := HH.out.st.c2
    have x0 := HH.out.it.c0
    have x1 := HH.out.it.c1
    have x2 := HH.out.it.c2
    have x3 := HH.out.it.c3
    go_upto_region 10 with (first | (go_at_call 20; refine (HCK.out _ HH.out.below).mono ?_; rintro e w2 ⟨rfl, hb⟩; replace HH := Lib.hid (HH.out.step hb); clear hb; have c0 := HH.out.st.c0; have c1 := HH.out.st.c1; have c2 := HH.out.st.c2; have x0 := HH.out.it.c0; have x1 := HH.out.it.c1; have x2 := HH.out.it.c2; have x3 := HH.out.it.c3) | (go_at_call 36; refine (HIC.out _).mono ?_; rintro e w2 ⟨rfl, hb⟩; replace HH := Lib.hid (HH.out.step hb); clear hb; have c0 := HH.out.st.c0; have c1 := HH.out.st.c1; have c2 := HH.out.st.c2; have x0 := HH.out.it.c0; have x1 := HH.out.it.c1; have x2 := HH.out.it.c2; have x3 := HH.out.it.c3) | (go_at_call 37; refine (HRZ.out _ HH.out.below).mono ?_; rintro e w3 ⟨ob, nb, cb, rfl, hlen, hcb, hf5, hob, hb⟩; have HV := Lib.hid (And.intro hlen (And.intro hcb hf5)); have HOB := Lib.hid (show (ob = oa ∧ R2 = L) ∨ ∀ a, ob = some a → w.heap.size + 3 < a.block from by rcases hob with h | h; exact .inl h; exact .inr (fun a ha => by have h1 := h a ha; have h2 := HH.out.lt; omega)); replace HH := Lib.hid (HH.out.step hb); clear hlen hcb hf5 hob hb; have c0 := HH.out.st.c0; have c1 := HH.out.st.c1; have c2 := HH.out.st.c2; have x0 := HH.out.it.c0; have x1 := HH.out.it.c1; have x2 := HH.out.it.c2; have x3 := HH.out.it.c3))
    have HTR := Lib.hid (show (w3.alloc (.cells #[.int .i64 mr, .slice ob nb cb] 24)).heap[w3.heap.size]? = some (.cells #[.int .i64 mr, .slice ob nb cb] 24 (0, 0)) from heap_alloc_new _ _)
    replace HH := Lib.hid (HH.out.step (below_new (.cells #[.int .i64 mr, .slice ob nb cb] 24)))
    replace HV := Lib.hid (And.intro HV.out.1 (And.intro HV.out.2.1 (HV.out.2.2.below (below_new (.cells #[.int .i64 mr, .slice ob nb cb] 24)))))
    generalize w3.alloc (.cells #[.int .i64 mr, .slice ob nb cb] 24) = w4 at HTR HV HH ⊢
    generalize w3.heap.size = g4 at HTR ⊢
    clear c0 c1 c2 x0 x1 x2 x3
    have c2 := HH.out.st.c2
    have t0 : w4.cell? ⟨g4, 0, none⟩ = some (.int .i64 mr) := cell_of_row _ _ 0 _ _ _ HTR.out
    have t1 : w4.cell? ⟨g4, 1, none⟩ = some (.slice ob nb cb) := cell_of_row _ _ 1 _ _ _ HTR.out
    have HF2 := Lib.hid ((setRow_other w4 (w.heap.size + 2) (w.heap.size + 3) #[.int .i64 mr, .slice ob nb cb, .int .i64 cp] (by omega)).trans HH.out.rf)
    have HR2 := Lib.hid (setRow_heap _ _ _ #[.int .i64 mr, .slice ob nb cb, .int .i64 cp] _ _ HH.out.rs)
    go_wp2_with (first | (refine wpList_store_row rfl _ _ _ rfl (w.heap.size + 2) #[.int .i64 mr, .slice ob nb cb, .int .i64 cp] rfl rfl _ _ HH.out.rs (by kernel_rfl) rfl (by kernel_rfl) ?_) | (refine wpList_store_row rfl _ _ _ rfl (w.heap.size + 3) #[.string ⟨#[]⟩, .string ⟨#[]⟩, .bool false] rfl rfl _ _ HF2.out (by kernel_rfl) rfl (by kernel_rfl) ?_))
    have HFF : Hid (∀ g, g = w.heap.size + 2 ∨ g = w.heap.size + 3 → R2 ≠ [] → ∀ a, ob = some a → a.block ≠ g) := Lib.hid (fun g hg hne a ha => by
      rcases HOB.out with ⟨e1, e2⟩ | h
      · have := HOA.out a (by rw [← e1]; exact ha) (by rw [← e2]; exact hne)
        omega
      · have := h a ha
        omega)
    exact bodyPost_ret (v := .tuple #[.agg #[.int .i64 mr, .slice ob nb cb, .int .i64 cp], .agg #[.string ⟨#[]⟩, .string ⟨#[]⟩, .bool false], .bool false, .int .i64 0]) (res_cell22 rfl _ _ (w.heap.size + 2) (w.heap.size + 3) _ _ _ _ (0, 0) (0, 0) _ _ rfl ((setRow_other _ _ _ _ (by omega)).trans HR2.out) Tryz.underlying26 rfl (by kernel_rfl) rfl (setRow_heap _ _ _ _ _ _ HF2.out) Tryz.underlying47 rfl (by kernel_rfl) _ _ rfl rfl) rfl ⟨ob, nb, cb, rfl, HV.out.1, HV.out.2.1, (HV.out.2.2.setRow (HFF.out _ (.inl rfl)) _).setRow (HFF.out _ (.inr rfl)) _, (by rcases HOB.out with h | h; exact .inl h; exact .inr (fun a ha => by have := h a ha; omega)), below_row (below_row HH.out.below (by omega) _) (by omega) _⟩
end Go.Proofs.YteceinojmdgmeaaGreat

