/- hdec.Step, and where the list that it leaves lies. -/
import Derived.Test.YteceinojmdgmeaaGreatC22
namespace Go.Proofs.YteceinojmdgmeaaGreat
open Go.RowKit
set_option linter.unusedVariables false
set_option linter.unusedSimpArgs false

def StepPost3 (oa : Option Addr) (mx cp : Int) (L : List Fld) (x : Itm) (w : World) (e : Ending) (w' : World) : Prop :=
  ∃ ob nb cb, e = .returned (.tuple #[.agg #[.int .i64 (hStep mx cp L x).1, .slice ob nb cb, .int .i64 cp], .agg #[.string (hStep mx cp L x).2.2.1.name, .string (hStep mx cp L x).2.2.1.value, .bool (hStep mx cp L x).2.2.1.never], .bool (hStep mx cp L x).2.2.2.1, .int .i64 (hStep mx cp L x).2.2.2.2]) ∧
    (hStep mx cp L x).2.1.length = nb ∧ nb ≤ cb ∧ FieldsN w' ob (hStep mx cp L x).2.1 ∧ ((ob = oa ∧ (hStep mx cp L x).2.1 = L) ∨ ∀ a, ob = some a → w.heap.size ≤ a.block) ∧ Below w.heap.size w w'
set_option maxRecDepth 100000 in
set_option maxHeartbeats 4000000 in
theorem hdecStepP_no (mx cp : Int) (oa : Option Addr) (n cap : Nat) (L : List Fld) (hn : L.length = n) (hnc : n ≤ cap) (hl : ∀ f ∈ L, lightF f = true) (hn30 : n ≤ 1000) (k : Nat) (hk : k < 256) (i : Int) (nm vl : ByteArray) (w : World) (hf : FieldsN w oa L)
    (h : hchk mx cp L ≠ 0 ∨ chkI ⟨k, i, nm, vl⟩ ≠ 0) :
    Calls Tryz.prog 14 #[.agg #[.int .i64 mx, .slice oa n cap, .int .i64 cp], .agg #[.int .u8 (k : Int), .int .i64 i, .string nm, .string vl]] w (StepPost3 oa mx cp L ⟨k, i, nm, vl⟩ w) := by
  have HH := Lib.hid (Hd.new w mx cp (.slice oa n cap) k i nm vl)
  have HFW := Lib.hid (show ∀ W, Below w.heap.size w W → FieldsN W oa L from fun W hW => hf.below hW)
  have HCK := Lib.hid (fun W (hW : Below w.heap.size w W) => hcheck_any mx cp oa n cap L hn hl hn30 W (hf.below hW))
  have HRC := Lib.hid (fun W => rcheck_any k i nm vl hk W)
  have HN := Lib.hid hn
  unfold StepPost3
  have HS : Hid (hStep mx cp L ⟨k, i, nm, vl⟩ = if hchk mx cp L ≠ 0 then (mx, L, zFl, false, hchk mx cp L) else if chkI ⟨k, i, nm, vl⟩ ≠ 0 then (mx, L, zFl, false, (chkI ⟨k, i, nm, vl⟩ : Nat)) else hSt mx cp L ⟨k, i, nm, vl⟩) := Lib.hid rfl
  generalize hStep mx cp L ⟨k, i, nm, vl⟩ = R at HS ⊢
  generalize chkI ⟨k, i, nm, vl⟩ = ci at HRC HS h
  generalize hchk mx cp L = hc at HCK HS h
  change Hid (Hd w ((((w.alloc (.cells #[.int .i64 mx, .slice oa n cap, .int .i64 cp] 32)).alloc (.cells #[.int .u8 (k : Int), .int .i64 i, .string nm, .string vl] 51)).alloc (.cells #[.int .i64 0, .slice none 0 0, .int .i64 0] 32)).alloc (.cells #[.string ⟨#[]⟩, .string ⟨#[]⟩, .bool false] 47)) mx cp (.slice oa n cap) k i nm vl) at HH
  clear hf hn
  by_cases h0 : hc = 0
  · subst h0
    have h1 : ci ≠ 0 := by rcases h with h | h; exact absurd rfl h; exact h
    rw [if_neg (by simp), if_pos h1] at HS
    have q1 : ((ci : Int) == 0) = false := beq_eq_false_iff_ne.2 (by omega)
    have q2 : ((ci : Int) != 0) = true := by rw [bne, q1]; rfl
    have e := HS.out
    subst e
    dsimp only
    clear HS h
    go_enter Tryz.func14, Tryz.ntmps14
    go_upto_region 1 with fail
    generalize ((((w.alloc (.cells #[.int .i64 mx, .slice oa n cap, .int .i64 cp] 32)).alloc (.cells #[.int .u8 (k : Int), .int .i64 i, .string nm, .string vl] 51)).alloc (.cells #[.int .i64 0, .slice none 0 0, .int .i64 0] 32)).alloc (.cells #[.string ⟨#[]⟩, .string ⟨#[]⟩, .bool false] 47)) = w1 at HH ⊢
    have c0 := HH.out.st.c0
    have c1 := HH.out.st.c1
    have c2 := HH.out.st.c2
    have x0 := HH.out.it.c0
    have x1 := HH.out.it.c1
    have x2 := HH.out.it.c2
    have x3 := HH.out.it.c3
    go_upto_region 5 with (first | (go_at_call 17; refine (HCK.out _ HH.out.below).mono ?_; rintro e w2 ⟨rfl, hb⟩; replace HH := Lib.hid (HH.out.step hb); clear hb; have c0 := HH.out.st.c0; have c1 := HH.out.st.c1; have c2 := HH.out.st.c2; have x0 := HH.out.it.c0; have x1 := HH.out.it.c1; have x2 := HH.out.it.c2; have x3 := HH.out.it.c3) | (go_at_call 26; refine (HRC.out _).mono ?_; rintro e w4 ⟨rfl, hb⟩; replace HH := Lib.hid (HH.out.step hb); clear hb; have c0 := HH.out.st.c0; have c1 := HH.out.st.c1; have c2 := HH.out.st.c2; have x0 := HH.out.it.c0; have x1 := HH.out.it.c1; have x2 := HH.out.it.c2; have x3 := HH.out.it.c3))
    have HF2 := Lib.hid ((setRow_other w4 (w.heap.size + 2) (w.heap.size + 3) #[.int .i64 mx, .slice oa n cap, .int .i64 cp] (by omega)).trans HH.out.rf)
    have HR2 := Lib.hid (setRow_heap _ _ _ #[.int .i64 mx, .slice oa n cap, .int .i64 cp] _ _ HH.out.rs)
    go_wp2_with (first | (refine wpList_store_row rfl _ _ _ rfl (w.heap.size + 2) #[.int .i64 mx, .slice oa n cap, .int .i64 cp] rfl rfl _ _ HH.out.rs (by kernel_rfl) rfl (by kernel_rfl) ?_) | (refine wpList_store_row rfl _ _ _ rfl (w.heap.size + 3) #[.string ⟨#[]⟩, .string ⟨#[]⟩, .bool false] rfl rfl _ _ HF2.out (by kernel_rfl) rfl (by kernel_rfl) ?_))
    exact bodyPost_ret (v := .tuple #[.agg #[.int .i64 mx, .slice oa n cap, .int .i64 cp], .agg #[.string ⟨#[]⟩, .string ⟨#[]⟩, .bool false], .bool false, .int .i64 ((ci : Nat))]) (res_cell22 rfl _ _ (w.heap.size + 2) (w.heap.size + 3) _ _ _ _ (0, 0) (0, 0) _ _ rfl ((setRow_other _ _ _ _ (by omega)).trans HR2.out) Tryz.underlying32 rfl (by kernel_rfl) rfl (setRow_heap _ _ _ _ _ _ HF2.out) Tryz.underlying47 rfl (by kernel_rfl) _ _ rfl rfl) rfl ⟨oa, n, cap, rfl, HN.out, hnc, HFW.out _ (below_row (below_row HH.out.below (by omega) _) (by omega) _), .inl ⟨rfl, by trivial⟩, below_row (below_row HH.out.below (by omega) _) (by omega) _⟩
  · rw [if_pos h0] at HS
    have q1 : (hc == 0) = false := beq_eq_false_iff_ne.2 h0
    have q2 : (hc != 0) = true := by rw [bne, q1]; rfl
    have e := HS.out
    subst e
    dsimp only
    clear HS h
    go_enter Tryz.func14, Tryz.ntmps14
    go_upto_region 1 with fail
    generalize ((((w.alloc (.cells #[.int .i64 mx, .slice oa n cap, .int .i64 cp] 32)).alloc (.cells #[.int .u8 (k : Int), .int .i64 i, .string nm, .string vl] 51)).alloc (.cells #[.int .i64 0, .slice none 0 0, .int .i64 0] 32)).alloc (.cells #[.string ⟨#[]⟩, .string ⟨#[]⟩, .bool false] 47)) = w1 at HH ⊢
    have c0 := HH.out.st.c0
    have c1 := HH.out.st.c1
    have c2 := HH.out.st.c2
    have x0 := HH.out.it.c0
    have x1 := HH.out.it.c1
    have x2 := HH.out.it.c2
    have x3 := HH.out.it.c3
    go_upto_region 2 with (first | (go_at_call 17; refine (HCK.out _ HH.out.below).mono ?_; rintro e w2 ⟨rfl, hb⟩; replace HH := Lib.hid (HH.out.step hb); clear hb; have c0 := HH.out.st.c0; have c1 := HH.out.st.c1; have c2 := HH.out.st.c2; have x0 := HH.out.it.c0; have x1 := HH.out.it.c1; have x2 := HH.out.it.c2; have x3 := HH.out.it.c3))
    have HF2 := Lib.hid ((setRow_other w2 (w.heap.size + 2) (w.heap.size + 3) #[.int .i64 mx, .slice oa n cap, .int .i64 cp] (by omega)).trans HH.out.rf)
    have HR2 := Lib.hid (setRow_heap _ _ _ #[.int .i64 mx, .slice oa n cap, .int .i64 cp] _ _ HH.out.rs)
    go_wp2_with (first | (refine wpList_store_row rfl _ _ _ rfl (w.heap.size + 2) #[.int .i64 mx, .slice oa n cap, .int .i64 cp] rfl rfl _ _ HH.out.rs (by kernel_rfl) rfl (by kernel_rfl) ?_) | (refine wpList_store_row rfl _ _ _ rfl (w.heap.size + 3) #[.string ⟨#[]⟩, .string ⟨#[]⟩, .bool false] rfl rfl _ _ HF2.out (by kernel_rfl) rfl (by kernel_rfl) ?_))
    exact bodyPost_ret (v := .tuple #[.agg #[.int .i64 mx, .slice oa n cap, .int .i64 cp], .agg #[.string ⟨#[]⟩, .string ⟨#[]⟩, .bool false], .bool false, .int .i64 (hc)]) (res_cell22 rfl _ _ (w.heap.size + 2) (w.heap.size + 3) _ _ _ _ (0, 0) (0, 0) _ _ rfl ((setRow_other _ _ _ _ (by omega)).trans HR2.out) Tryz.underlying32 rfl (by kernel_rfl) rfl (setRow_heap _ _ _ _ _ _ HF2.out) Tryz.underlying47 rfl (by kernel_rfl) _ _ rfl rfl) rfl ⟨oa, n, cap, rfl, HN.out, hnc, HFW.out _ (below_row (below_row HH.out.below (by omega) _) (by omega) _), .inl ⟨rfl, by trivial⟩, below_row (below_row HH.out.below (by omega) _) (by omega) _⟩
set_option maxRecDepth 100000 in
set_option maxHeartbeats 4000000 in
theorem hdecStepP_yes (mx cp : Int) (oa : Option Addr) (n cap : Nat) (L : List Fld) (hn : L.length = n) (hl : ∀ f ∈ L, lightF f = true) (hn30 : n ≤ 1000) (k : Nat) (hk : k < 256) (i : Int) (nm vl : ByteArray) (w : World) (hf : FieldsN w oa L)
    (h0 : hchk mx cp L = 0) (h1 : chkI ⟨k, i, nm, vl⟩ = 0)
    (hst : ∀ W, Below w.heap.size w W → Calls Tryz.prog 19 #[.agg #[.int .i64 mx, .slice oa n cap, .int .i64 cp], .agg #[.int .u8 (k : Int), .int .i64 i, .string nm, .string vl]] W (StepPost oa mx cp L ⟨k, i, nm, vl⟩ W)) :
    Calls Tryz.prog 14 #[.agg #[.int .i64 mx, .slice oa n cap, .int .i64 cp], .agg #[.int .u8 (k : Int), .int .i64 i, .string nm, .string vl]] w (StepPost3 oa mx cp L ⟨k, i, nm, vl⟩ w) := by
  have HH := Lib.hid (Hd.new w mx cp (.slice oa n cap) k i nm vl)
  have HCK := Lib.hid (fun W (hW : Below w.heap.size w W) => hcheck_any mx cp oa n cap L hn hl hn30 W (hf.below hW))
  have HRC := Lib.hid (fun W => rcheck_any k i nm vl hk W)
  have HOA := Lib.hid (show ∀ a, oa = some a → L ≠ [] → a.block < w.heap.size from fun a ha hne => by
    cases L with
    | nil => exact absurd rfl hne
    | cons f t =>
      obtain ⟨b, o, e, c, _⟩ := hf 0 f rfl
      rw [ha] at e
      injection e with e
      subst e
      exact World.block_lt_of_cell? _ _ c)
  unfold StepPost3
  have e : hStep mx cp L ⟨k, i, nm, vl⟩ = hSt mx cp L ⟨k, i, nm, vl⟩ := by unfold hStep; rw [h0, if_neg (by simp), h1, if_neg (by simp)]
  rw [e]
  have HST := Lib.hid hst
  unfold StepPost at HST
  have HNE := Lib.hid (show (hSt mx cp L ⟨k, i, nm, vl⟩).2.1 ≠ [] → L ≠ [] ∨ True from fun _ => .inr trivial)
  rw [h0] at HCK
  rw [h1] at HRC
  clear e h0 h1 hst hf hn
  obtain ⟨⟨r1, r2, r3, r4, r5⟩, hR⟩ : ∃ R, hSt mx cp L ⟨k, i, nm, vl⟩ = R := ⟨_, rfl⟩
  rw [hR] at HST ⊢
  dsimp only at HST ⊢
  clear hR HNE
  change Hid (Hd w ((((w.alloc (.cells #[.int .i64 mx, .slice oa n cap, .int .i64 cp] 32)).alloc (.cells #[.int .u8 (k : Int), .int .i64 i, .string nm, .string vl] 51)).alloc (.cells #[.int .i64 0, .slice none 0 0, .int .i64 0] 32)).alloc (.cells #[.string ⟨#[]⟩, .string ⟨#[]⟩, .bool false] 47)) mx cp (.slice oa n cap) k i nm vl) at HH
  go_enter Tryz.func14, Tryz.ntmps14
  go_upto_region 1 with fail
  generalize ((((w.alloc (.cells #[.int .i64 mx, .slice oa n cap, .int .i64 cp] 32)).alloc (.cells #[.int .u8 (k : Int), .int .i64 i, .string nm, .string vl] 51)).alloc (.cells #[.int .i64 0, .slice none 0 0, .int .i64 0] 32)).alloc (.cells #[.string ⟨#[]⟩, .string ⟨#[]⟩, .bool false] 47)) = w1 at HH ⊢
  have c0 := HH.out.st.c0
  have c1 := HH.out.st.c1
  have c2 := HH.out.st.c2
  have x0 := HH.out.it.c0
  have x1 := HH.out.it.c1
  have x2 := HH.out.it.c2
  have x3 := HH.out.it.c3
  go_wp2_with (first | (go_at_call 17; refine (HCK.out _ HH.out.below).mono ?_; rintro e w2 ⟨rfl, hb⟩; replace HH := Lib.hid (HH.out.step hb); clear hb; have c0 := HH.out.st.c0; have c1 := HH.out.st.c1; have c2 := HH.out.st.c2; have x0 := HH.out.it.c0; have x1 := HH.out.it.c1; have x2 := HH.out.it.c2; have x3 := HH.out.it.c3) | (go_at_call 26; refine (HRC.out _).mono ?_; rintro e w4 ⟨rfl, hb⟩; replace HH := Lib.hid (HH.out.step hb); clear hb; have c0 := HH.out.st.c0; have c1 := HH.out.st.c1; have c2 := HH.out.st.c2; have x0 := HH.out.it.c0; have x1 := HH.out.it.c1; have x2 := HH.out.it.c2; have x3 := HH.out.it.c3) | (go_at_call 19; refine (HST.out _ HH.out.below).mono ?_; rintro e w5 ⟨ob, nb, cb, rfl, hlen, hcb, hf5, hob, hb⟩; have HV := Lib.hid (And.intro hlen (And.intro hcb hf5)); have HOB := Lib.hid (show (ob = oa ∧ r2 = L) ∨ ∀ a, ob = some a → w.heap.size + 3 < a.block from by rcases hob with h | h; exact .inl h; exact .inr (fun a ha => by have h1 := h a ha; have h2 := HH.out.lt; omega)); replace HH := Lib.hid (HH.out.step hb); have HF2 := Lib.hid ((setRow_other w5 (w.heap.size + 2) (w.heap.size + 3) #[.int .i64 r1, .slice ob nb cb, .int .i64 cp] (by omega)).trans HH.out.rf); have HR2 := Lib.hid (setRow_heap _ _ _ #[.int .i64 r1, .slice ob nb cb, .int .i64 cp] _ _ HH.out.rs); clear hlen hcb hf5 hob hb) | (refine wpList_store_row rfl _ _ _ rfl (w.heap.size + 2) #[.int .i64 r1, .slice ob nb cb, .int .i64 cp] rfl rfl _ _ HH.out.rs (by kernel_rfl) rfl (by kernel_rfl) ?_) | (refine wpList_store_row rfl _ _ _ rfl (w.heap.size + 3) #[.string r3.name, .string r3.value, .bool r3.never] rfl rfl _ _ HF2.out (by kernel_rfl) rfl (by kernel_rfl) ?_))
  have HFF : Hid (∀ g, g = w.heap.size + 2 ∨ g = w.heap.size + 3 → r2 ≠ [] → ∀ a, ob = some a → a.block ≠ g) := Lib.hid (fun g hg hne a ha => by
    rcases HOB.out with ⟨e1, e2⟩ | h
    · have := HOA.out a (by rw [← e1]; exact ha) (by rw [← e2]; exact hne)
      omega
    · have := h a ha
      omega)
  exact bodyPost_ret (v := .tuple #[.agg #[.int .i64 r1, .slice ob nb cb, .int .i64 cp], .agg #[.string r3.name, .string r3.value, .bool r3.never], .bool r4, .int .i64 r5]) (res_cell22 rfl _ _ (w.heap.size + 2) (w.heap.size + 3) _ _ _ _ (0, 0) (0, 0) _ _ rfl ((setRow_other _ _ _ _ (by omega)).trans HR2.out) Tryz.underlying32 rfl (by kernel_rfl) rfl (setRow_heap _ _ _ _ _ _ HF2.out) Tryz.underlying47 rfl (by kernel_rfl) _ _ rfl rfl) rfl
    ⟨ob, nb, cb, rfl, HV.out.1, HV.out.2.1, (HV.out.2.2.setRow (HFF.out _ (.inl rfl)) _).setRow (HFF.out _ (.inr rfl)) _, (by rcases HOB.out with h | h; exact .inl h; exact .inr (fun a ha => by have := h a ha; omega)), below_row (below_row HH.out.below (by omega) _) (by omega) _⟩
theorem hdecStepP_any (mx cp : Int) (oa : Option Addr) (n cap : Nat) (L : List Fld) (hn : L.length = n) (hnc : n ≤ cap) (hl : ∀ f ∈ L, lightF f = true) (hn30 : n ≤ 1000) (k : Nat) (hk : k < 256) (i : Int) (nm vl : ByteArray) (hi : (Lit.int .i64 i).wf = true) (hvl : vl.size ≤ 40000) (hnm : nm.size ≤ 40000) (w : World) (hf : FieldsN w oa L) :
    Calls Tryz.prog 14 #[.agg #[.int .i64 mx, .slice oa n cap, .int .i64 cp], .agg #[.int .u8 (k : Int), .int .i64 i, .string nm, .string vl]] w (StepPost3 oa mx cp L ⟨k, i, nm, vl⟩ w) := by
  by_cases h0 : hchk mx cp L = 0
  · by_cases h1 : chkI ⟨k, i, nm, vl⟩ = 0
    · exact hdecStepP_yes mx cp oa n cap L hn hl hn30 k hk i nm vl w hf h0 h1 (fun W hW => step_any mx cp oa n cap L hn hnc hl hn30 k hk i nm vl hi hvl hnm W (hf.below hW))
    · exact hdecStepP_no mx cp oa n cap L hn hnc hl hn30 k hk i nm vl w hf (.inr h1)
  · exact hdecStepP_no mx cp oa n cap L hn hnc hl hn30 k hk i nm vl w hf (.inl h0)
end Go.Proofs.YteceinojmdgmeaaGreat

