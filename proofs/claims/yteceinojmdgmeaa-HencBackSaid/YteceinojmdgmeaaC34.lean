/- HdH · HdI · HdJ: joined by a program, for a claim has at most 60 files. -/
import Derived.Test.YteceinojmdgmeaaC30
import Derived.Test.YteceinojmdgmeaaC31
import Derived.Test.YteceinojmdgmeaaC33
/- hdec: Step, by a contract of step. -/
namespace Go.Proofs.Yteceinojmdgmeaa
open Go.RowKit
set_option linter.unusedVariables false
set_option linter.unusedSimpArgs false

/-- What Step does: the state and the item are looked at first. -/
def hStep (mx cp : Int) (L : List Fld) (x : Itm) : Int × List Fld × Fld × Bool × Int :=
  if hchk mx cp L ≠ 0 then (mx, L, zFl, false, hchk mx cp L) else if chkI x ≠ 0 then (mx, L, zFl, false, (chkI x : Nat)) else hSt mx cp L x
def StepPost2 (mx cp : Int) (L : List Fld) (x : Itm) (w : World) (e : Ending) (w' : World) : Prop :=
  ∃ ob nb cb, e = .returned (.tuple #[.agg #[.int .i64 (hStep mx cp L x).1, .slice ob nb cb, .int .i64 cp], .agg #[.string (hStep mx cp L x).2.2.1.name, .string (hStep mx cp L x).2.2.1.value, .bool (hStep mx cp L x).2.2.1.never], .bool (hStep mx cp L x).2.2.2.1, .int .i64 (hStep mx cp L x).2.2.2.2]) ∧
    (hStep mx cp L x).2.1.length = nb ∧ nb ≤ cb ∧ FieldsN w' ob (hStep mx cp L x).2.1 ∧ Below w.heap.size w w'
set_option maxRecDepth 100000 in
set_option maxHeartbeats 4000000 in
theorem hdecStep_no (mx cp : Int) (oa : Option Addr) (n cap : Nat) (L : List Fld) (hn : L.length = n) (hnc : n ≤ cap) (hl : ∀ f ∈ L, lightF f = true) (hn30 : n ≤ 1000) (k : Nat) (hk : k < 256) (i : Int) (nm vl : ByteArray) (w : World) (hf : FieldsN w oa L)
    (h : hchk mx cp L ≠ 0 ∨ chkI ⟨k, i, nm, vl⟩ ≠ 0) :
    Calls Try.prog 14 #[.agg #[.int .i64 mx, .slice oa n cap, .int .i64 cp], .agg #[.int .u8 (k : Int), .int .i64 i, .string nm, .string vl]] w (StepPost2 mx cp L ⟨k, i, nm, vl⟩ w) := by
  have HH := Lib.hid (Hd.new w mx cp (.slice oa n cap) k i nm vl)
  have HFW := Lib.hid (show ∀ W, Below w.heap.size w W → FieldsN W oa L from fun W hW => hf.below hW)
  have HCK := Lib.hid (fun W (hW : Below w.heap.size w W) => hcheck_any mx cp oa n cap L hn hl hn30 W (hf.below hW))
  have HRC := Lib.hid (fun W => rcheck_any k i nm vl hk W)
  have HN := Lib.hid hn
  unfold StepPost2
  have HS : Hid (hStep mx cp L ⟨k, i, nm, vl⟩ = if hchk mx cp L ≠ 0 then (mx, L, zFl, false, hchk mx cp L) else if chkI ⟨k, i, nm, vl⟩ ≠ 0 then (mx, L, zFl, false, (chkI ⟨k, i, nm, vl⟩ : Nat)) else hSt mx cp L ⟨k, i, nm, vl⟩) := Lib.hid rfl
  generalize hStep mx cp L ⟨k, i, nm, vl⟩ = R at HS ⊢
  generalize chkI ⟨k, i, nm, vl⟩ = ci at HRC HS h
  generalize hchk mx cp L = hc at HCK HS h
  change Hid (Hd w ((((w.alloc (.cells #[.int .i64 mx, .slice oa n cap, .int .i64 cp] 45)).alloc (.cells #[.int .u8 (k : Int), .int .i64 i, .string nm, .string vl] 49)).alloc (.cells #[.int .i64 0, .slice none 0 0, .int .i64 0] 45)).alloc (.cells #[.string ⟨#[]⟩, .string ⟨#[]⟩, .bool false] 25)) mx cp (.slice oa n cap) k i nm vl) at HH
  clear hf hn
  by_cases h0 : hc = 0
  · subst h0
    have h1 : ci ≠ 0 := by rcases h with h | h; exact absurd rfl h; exact h
    rw [if_neg (by simp), if_pos h1] at HS
    have q1 : ((ci : Int) == 0) = false := beq_eq_false_iff_ne.2 (by omega)
    have q2 : ((ci : Int) != 0) = true := by rw [bne, q1]; rfl
    have e := HS.out
    subst e
    dsimp only
    clear HS h
    go_enter Try.func14, Try.ntmps14
    go_upto_region 1 with fail
    generalize ((((w.alloc (.cells #[.int .i64 mx, .slice oa n cap, .int .i64 cp] 45)).alloc (.cells #[.int .u8 (k : Int), .int .i64 i, .string nm, .string vl] 49)).alloc (.cells #[.int .i64 0, .slice none 0 0, .int .i64 0] 45)).alloc (.cells #[.string ⟨#[]⟩, .string ⟨#[]⟩, .bool false] 25)) = w1 at HH ⊢
    have c0 := HH.out.st.c0
    have c1 := HH.out.st.c1
    have c2 := HH.out.st.c2
    have x0 := HH.out.it.c0
    have x1 := HH.out.it.c1
    have x2 := HH.out.it.c2
    have x3 := HH.out.it.c3
    go_upto_region 5 with (first | (go_at_call 21; refine (HCK.out _ HH.out.below).mono ?_; rintro e w2 ⟨rfl, hb⟩; replace HH := Lib.hid (HH.out.step hb); clear hb; have c0 := HH.out.st.c0; have c1 := HH.out.st.c1; have c2 := HH.out.st.c2; have x0 := HH.out.it.c0; have x1 := HH.out.it.c1; have x2 := HH.out.it.c2; have x3 := HH.out.it.c3) | (go_at_call 38; refine (HRC.out _).mono ?_; rintro e w4 ⟨rfl, hb⟩; replace HH := Lib.hid (HH.out.step hb); clear hb; have c0 := HH.out.st.c0; have c1 := HH.out.st.c1; have c2 := HH.out.st.c2; have x0 := HH.out.it.c0; have x1 := HH.out.it.c1; have x2 := HH.out.it.c2; have x3 := HH.out.it.c3))
    have HF2 := Lib.hid ((setRow_other w4 (w.heap.size + 2) (w.heap.size + 3) #[.int .i64 mx, .slice oa n cap, .int .i64 cp] (by omega)).trans HH.out.rf)
    have HR2 := Lib.hid (setRow_heap _ _ _ #[.int .i64 mx, .slice oa n cap, .int .i64 cp] _ _ HH.out.rs)
    go_wp2_with (first | (refine wpList_store_row rfl _ _ _ rfl (w.heap.size + 2) #[.int .i64 mx, .slice oa n cap, .int .i64 cp] rfl rfl _ _ HH.out.rs (by kernel_rfl) rfl (by kernel_rfl) ?_) | (refine wpList_store_row rfl _ _ _ rfl (w.heap.size + 3) #[.string ⟨#[]⟩, .string ⟨#[]⟩, .bool false] rfl rfl _ _ HF2.out (by kernel_rfl) rfl (by kernel_rfl) ?_))
    exact bodyPost_ret (v := .tuple #[.agg #[.int .i64 mx, .slice oa n cap, .int .i64 cp], .agg #[.string ⟨#[]⟩, .string ⟨#[]⟩, .bool false], .bool false, .int .i64 ((ci : Nat))]) (res_cell22 rfl _ _ (w.heap.size + 2) (w.heap.size + 3) _ _ _ _ (0, 0) (0, 0) _ _ rfl ((setRow_other _ _ _ _ (by omega)).trans HR2.out) Try.underlying45 rfl (by kernel_rfl) rfl (setRow_heap _ _ _ _ _ _ HF2.out) Try.underlying25 rfl (by kernel_rfl) _ _ rfl rfl) rfl ⟨oa, n, cap, rfl, HN.out, hnc, HFW.out _ (below_row (below_row HH.out.below (by omega) _) (by omega) _), below_row (below_row HH.out.below (by omega) _) (by omega) _⟩
  · rw [if_pos h0] at HS
    have q1 : (hc == 0) = false := beq_eq_false_iff_ne.2 h0
    have q2 : (hc != 0) = true := by rw [bne, q1]; rfl
    have e := HS.out
    subst e
    dsimp only
    clear HS h
    go_enter Try.func14, Try.ntmps14
    go_upto_region 1 with fail
    generalize ((((w.alloc (.cells #[.int .i64 mx, .slice oa n cap, .int .i64 cp] 45)).alloc (.cells #[.int .u8 (k : Int), .int .i64 i, .string nm, .string vl] 49)).alloc (.cells #[.int .i64 0, .slice none 0 0, .int .i64 0] 45)).alloc (.cells #[.string ⟨#[]⟩, .string ⟨#[]⟩, .bool false] 25)) = w1 at HH ⊢
    have c0 := HH.out.st.c0
    have c1 := HH.out.st.c1
    have c2 := HH.out.st.c2
    have x0 := HH.out.it.c0
    have x1 := HH.out.it.c1
    have x2 := HH.out.it.c2
    have x3 := HH.out.it.c3
    go_upto_region 2 with (first | (go_at_call 21; refine (HCK.out _ HH.out.below).mono ?_; rintro e w2 ⟨rfl, hb⟩; replace HH := Lib.hid (HH.out.step hb); clear hb; have c0 := HH.out.st.c0; have c1 := HH.out.st.c1; have c2 := HH.out.st.c2; have x0 := HH.out.it.c0; have x1 := HH.out.it.c1; have x2 := HH.out.it.c2; have x3 := HH.out.it.c3))
    have HF2 := Lib.hid ((setRow_other w2 (w.heap.size + 2) (w.heap.size + 3) #[.int .i64 mx, .slice oa n cap, .int .i64 cp] (by omega)).trans HH.out.rf)
    have HR2 := Lib.hid (setRow_heap _ _ _ #[.int .i64 mx, .slice oa n cap, .int .i64 cp] _ _ HH.out.rs)
    go_wp2_with (first | (refine wpList_store_row rfl _ _ _ rfl (w.heap.size + 2) #[.int .i64 mx, .slice oa n cap, .int .i64 cp] rfl rfl _ _ HH.out.rs (by kernel_rfl) rfl (by kernel_rfl) ?_) | (refine wpList_store_row rfl _ _ _ rfl (w.heap.size + 3) #[.string ⟨#[]⟩, .string ⟨#[]⟩, .bool false] rfl rfl _ _ HF2.out (by kernel_rfl) rfl (by kernel_rfl) ?_))
    exact bodyPost_ret (v := .tuple #[.agg #[.int .i64 mx, .slice oa n cap, .int .i64 cp], .agg #[.string ⟨#[]⟩, .string ⟨#[]⟩, .bool false], .bool false, .int .i64 (hc)]) (res_cell22 rfl _ _ (w.heap.size + 2) (w.heap.size + 3) _ _ _ _ (0, 0) (0, 0) _ _ rfl ((setRow_other _ _ _ _ (by omega)).trans HR2.out) Try.underlying45 rfl (by kernel_rfl) rfl (setRow_heap _ _ _ _ _ _ HF2.out) Try.underlying25 rfl (by kernel_rfl) _ _ rfl rfl) rfl ⟨oa, n, cap, rfl, HN.out, hnc, HFW.out _ (below_row (below_row HH.out.below (by omega) _) (by omega) _), below_row (below_row HH.out.below (by omega) _) (by omega) _⟩
end Go.Proofs.Yteceinojmdgmeaa


/- hdec: Step, by a contract of step: an item that may be, by a state that may be. -/
namespace Go.Proofs.Yteceinojmdgmeaa
open Go.RowKit
set_option linter.unusedVariables false
set_option linter.unusedSimpArgs false

set_option maxRecDepth 100000 in
set_option maxHeartbeats 4000000 in
theorem hdecStep_yes (mx cp : Int) (oa : Option Addr) (n cap : Nat) (L : List Fld) (hn : L.length = n) (hl : ∀ f ∈ L, lightF f = true) (hn30 : n ≤ 1000) (k : Nat) (hk : k < 256) (i : Int) (nm vl : ByteArray) (w : World) (hf : FieldsN w oa L)
    (h0 : hchk mx cp L = 0) (h1 : chkI ⟨k, i, nm, vl⟩ = 0)
    (hst : ∀ W, Below w.heap.size w W → Calls Try.prog 39 #[.agg #[.int .i64 mx, .slice oa n cap, .int .i64 cp], .agg #[.int .u8 (k : Int), .int .i64 i, .string nm, .string vl]] W (StepPost oa mx cp L ⟨k, i, nm, vl⟩ W)) :
    Calls Try.prog 14 #[.agg #[.int .i64 mx, .slice oa n cap, .int .i64 cp], .agg #[.int .u8 (k : Int), .int .i64 i, .string nm, .string vl]] w (StepPost2 mx cp L ⟨k, i, nm, vl⟩ w) := by
  have HH := Lib.hid (Hd.new w mx cp (.slice oa n cap) k i nm vl)
  have HCK := Lib.hid (fun W (hW : Below w.heap.size w W) => hcheck_any mx cp oa n cap L hn hl hn30 W (hf.below hW))
  have HRC := Lib.hid (fun W => rcheck_any k i nm vl hk W)
  have HOA := Lib.hid (show ∀ a, oa = some a → L ≠ [] → a.block < w.heap.size from fun a ha hne => by
    cases L with
    | nil => exact absurd rfl hne
    | cons f t =>
      obtain ⟨b, o, e, c, _⟩ := hf 0 f rfl
      rw [ha] at e
      injection e with e
      subst e
      exact World.block_lt_of_cell? _ _ c)
  unfold StepPost2
  have e : hStep mx cp L ⟨k, i, nm, vl⟩ = hSt mx cp L ⟨k, i, nm, vl⟩ := by unfold hStep; rw [h0, if_neg (by simp), h1, if_neg (by simp)]
  rw [e]
  have HST := Lib.hid hst
  unfold StepPost at HST
  have HNE := Lib.hid (show (hSt mx cp L ⟨k, i, nm, vl⟩).2.1 ≠ [] → L ≠ [] ∨ True from fun _ => .inr trivial)
  rw [h0] at HCK
  rw [h1] at HRC
  clear e h0 h1 hst hf hn
  obtain ⟨⟨r1, r2, r3, r4, r5⟩, hR⟩ : ∃ R, hSt mx cp L ⟨k, i, nm, vl⟩ = R := ⟨_, rfl⟩
  rw [hR] at HST ⊢
  dsimp only at HST ⊢
  clear hR HNE
  change Hid (Hd w ((((w.alloc (.cells #[.int .i64 mx, .slice oa n cap, .int .i64 cp] 45)).alloc (.cells #[.int .u8 (k : Int), .int .i64 i, .string nm, .string vl] 49)).alloc (.cells #[.int .i64 0, .slice none 0 0, .int .i64 0] 45)).alloc (.cells #[.string ⟨#[]⟩, .string ⟨#[]⟩, .bool false] 25)) mx cp (.slice oa n cap) k i nm vl) at HH
  go_enter Try.func14, Try.ntmps14
  go_upto_region 1 with fail
  generalize ((((w.alloc (.cells #[.int .i64 mx, .slice oa n cap, .int .i64 cp] 45)).alloc (.cells #[.int .u8 (k : Int), .int .i64 i, .string nm, .string vl] 49)).alloc (.cells #[.int .i64 0, .slice none 0 0, .int .i64 0] 45)).alloc (.cells #[.string ⟨#[]⟩, .string ⟨#[]⟩, .bool false] 25)) = w1 at HH ⊢
  have c0 := HH.out.st.c0
  have c1 := HH.out.st.c1
  have c2 := HH.out.st.c2
  have x0 := HH.out.it.c0
  have x1 := HH.out.it.c1
  have x2 := HH.out.it.c2
  have x3 := HH.out.it.c3
  go_wp2_with (first | (go_at_call 21; refine (HCK.out _ HH.out.below).mono ?_; rintro e w2 ⟨rfl, hb⟩; replace HH := Lib.hid (HH.out.step hb); clear hb; have c0 := HH.out.st.c0; have c1 := HH.out.st.c1; have c2 := HH.out.st.c2; have x0 := HH.out.it.c0; have x1 := HH.out.it.c1; have x2 := HH.out.it.c2; have x3 := HH.out.it.c3) | (go_at_call 38; refine (HRC.out _).mono ?_; rintro e w4 ⟨rfl, hb⟩; replace HH := Lib.hid (HH.out.step hb); clear hb; have c0 := HH.out.st.c0; have c1 := HH.out.st.c1; have c2 := HH.out.st.c2; have x0 := HH.out.it.c0; have x1 := HH.out.it.c1; have x2 := HH.out.it.c2; have x3 := HH.out.it.c3) | (go_at_call 39; refine (HST.out _ HH.out.below).mono ?_; rintro e w5 ⟨ob, nb, cb, rfl, hlen, hcb, hf5, hob, hb⟩; have HV := Lib.hid (And.intro hlen (And.intro hcb hf5)); have HOB := Lib.hid (show (ob = oa ∧ r2 = L) ∨ ∀ a, ob = some a → w.heap.size + 3 < a.block from by rcases hob with h | h; exact .inl h; exact .inr (fun a ha => by have h1 := h a ha; have h2 := HH.out.lt; omega)); replace HH := Lib.hid (HH.out.step hb); have HF2 := Lib.hid ((setRow_other w5 (w.heap.size + 2) (w.heap.size + 3) #[.int .i64 r1, .slice ob nb cb, .int .i64 cp] (by omega)).trans HH.out.rf); have HR2 := Lib.hid (setRow_heap _ _ _ #[.int .i64 r1, .slice ob nb cb, .int .i64 cp] _ _ HH.out.rs); clear hlen hcb hf5 hob hb) | (refine wpList_store_row rfl _ _ _ rfl (w.heap.size + 2) #[.int .i64 r1, .slice ob nb cb, .int .i64 cp] rfl rfl _ _ HH.out.rs (by kernel_rfl) rfl (by kernel_rfl) ?_) | (refine wpList_store_row rfl _ _ _ rfl (w.heap.size + 3) #[.string r3.name, .string r3.value, .bool r3.never] rfl rfl _ _ HF2.out (by kernel_rfl) rfl (by kernel_rfl) ?_))
  have HFF : Hid (∀ g, g = w.heap.size + 2 ∨ g = w.heap.size + 3 → r2 ≠ [] → ∀ a, ob = some a → a.block ≠ g) := Lib.hid (fun g hg hne a ha => by
    rcases HOB.out with ⟨e1, e2⟩ | h
    · have := HOA.out a (by rw [← e1]; exact ha) (by rw [← e2]; exact hne)
      omega
    · have := h a ha
      omega)
  exact bodyPost_ret (v := .tuple #[.agg #[.int .i64 r1, .slice ob nb cb, .int .i64 cp], .agg #[.string r3.name, .string r3.value, .bool r3.never], .bool r4, .int .i64 r5]) (res_cell22 rfl _ _ (w.heap.size + 2) (w.heap.size + 3) _ _ _ _ (0, 0) (0, 0) _ _ rfl ((setRow_other _ _ _ _ (by omega)).trans HR2.out) Try.underlying45 rfl (by kernel_rfl) rfl (setRow_heap _ _ _ _ _ _ HF2.out) Try.underlying25 rfl (by kernel_rfl) _ _ rfl rfl) rfl
    ⟨ob, nb, cb, rfl, HV.out.1, HV.out.2.1, (HV.out.2.2.setRow (HFF.out _ (.inl rfl)) _).setRow (HFF.out _ (.inr rfl)) _, below_row (below_row HH.out.below (by omega) _) (by omega) _⟩
end Go.Proofs.Yteceinojmdgmeaa


/- hdec: step and Step, any item by any state. -/
namespace Go.Proofs.Yteceinojmdgmeaa
open Go.RowKit
set_option linter.unusedVariables false
set_option linter.unusedSimpArgs false

theorem st_short (k : Nat) (h : k < 61) : (stN k).size ≤ 40000 ∧ (stV k).size ≤ 40000 := by
  have H : (List.range 61).all (fun k => decide ((stN k).size ≤ 40000) && decide ((stV k).size ≤ 40000)) = true := by decide +kernel
  have := List.all_eq_true.1 H k (List.mem_range.2 h)
  simpa using this
theorem atF_light (L : List Fld) (hl : ∀ f ∈ L, lightF f = true) (i : Int) : lightF (atF L i).1 = true := by
  unfold atF
  by_cases h1 : i < 1
  · rw [if_pos h1]; rfl
  · rw [if_neg h1]
    by_cases h2 : i ≤ 61
    · rw [if_pos h2]
      have := st_short (i - 1).toNat (by omega)
      simp only [lightF, Bool.and_eq_true, decide_eq_true_eq]
      exact this
    · rw [if_neg h2]
      cases h : L[(i - 62).toNat]? with
      | none => rfl
      | some f => exact hl f (List.mem_of_getElem? h)
theorem named_len (L : List Fld) (hl : ∀ f ∈ L, lightF f = true) (x : Itm) (hx : x.name.size ≤ 40000) : (hNamed L x).1.name.size ≤ 40000 := by
  unfold hNamed
  by_cases h : x.index = 0
  · rw [if_pos h]; exact hx
  · rw [if_neg h]
    have := atF_light L hl x.index
    simp only [lightF, Bool.and_eq_true, decide_eq_true_eq] at this
    exact this.1
theorem step_any (mx cp : Int) (oa : Option Addr) (n cap : Nat) (L : List Fld) (hn : L.length = n) (hnc : n ≤ cap) (hl : ∀ f ∈ L, lightF f = true) (hn30 : n ≤ 1000) (k : Nat) (hk : k < 256) (i : Int) (nm vl : ByteArray) (hi : (Lit.int .i64 i).wf = true) (hvl : vl.size ≤ 40000) (hnm : nm.size ≤ 40000) (w : World) (hf : FieldsN w oa L) :
    Calls Try.prog 39 #[.agg #[.int .i64 mx, .slice oa n cap, .int .i64 cp], .agg #[.int .u8 (k : Int), .int .i64 i, .string nm, .string vl]] w (StepPost oa mx cp L ⟨k, i, nm, vl⟩ w) := by
  have hna := named_len L hl ⟨k, i, nm, vl⟩ hnm
  by_cases h4 : k = 4
  · subst h4
    exact step_four mx cp oa n cap L hn hnc hl hn30 i nm vl w hf
  · by_cases h1 : k = 1 ∧ (hNamed L ⟨k, i, nm, vl⟩).2 = true
    · exact step_add mx cp oa n cap L hn hnc hl hn30 k hk i nm vl hi hvl hna w hf h1.1 h1.2
    · exact step_rest mx cp oa n cap L hn hnc hl hn30 k hk i nm vl hi hvl hna w hf h4 (fun h e => h1 ⟨e, h⟩)
theorem hdecStep_any (mx cp : Int) (oa : Option Addr) (n cap : Nat) (L : List Fld) (hn : L.length = n) (hnc : n ≤ cap) (hl : ∀ f ∈ L, lightF f = true) (hn30 : n ≤ 1000) (k : Nat) (hk : k < 256) (i : Int) (nm vl : ByteArray) (hi : (Lit.int .i64 i).wf = true) (hvl : vl.size ≤ 40000) (hnm : nm.size ≤ 40000) (w : World) (hf : FieldsN w oa L) :
    Calls Try.prog 14 #[.agg #[.int .i64 mx, .slice oa n cap, .int .i64 cp], .agg #[.int .u8 (k : Int), .int .i64 i, .string nm, .string vl]] w (StepPost2 mx cp L ⟨k, i, nm, vl⟩ w) := by
  by_cases h0 : hchk mx cp L = 0
  · by_cases h1 : chkI ⟨k, i, nm, vl⟩ = 0
    · exact hdecStep_yes mx cp oa n cap L hn hl hn30 k hk i nm vl w hf h0 h1 (fun W hW => step_any mx cp oa n cap L hn hnc hl hn30 k hk i nm vl hi hvl hnm W (hf.below hW))
    · exact hdecStep_no mx cp oa n cap L hn hnc hl hn30 k hk i nm vl w hf (.inr h1)
  · exact hdecStep_no mx cp oa n cap L hn hnc hl hn30 k hk i nm vl w hf (.inl h0)
/-- A table that may be is small. -/
theorem chk_sum {mx : Int} {L : List Fld} (h : chkN mx L = 0) : 0 ≤ mx ∧ mx ≤ 4096 ∧ (sumF L : Int) ≤ mx ∧ L.any (·.never) = false := by
  unfold chkN at h
  by_cases h1 : mx < 0 ∨ 4096 < mx
  · rw [if_pos h1] at h; omega
  · rw [if_neg h1] at h
    cases h2 : L.any (·.never) with
    | true => rw [h2] at h; simp at h
    | false =>
      rw [h2] at h
      by_cases h3 : mx < (sumF L : Nat)
      · rw [if_pos h3] at h; simp at h
      · exact ⟨by omega, by omega, by omega, rfl⟩
theorem sumF_len (L : List Fld) : 32 * L.length ≤ sumF L := by
  induction L with
  | nil => simp [sumF]
  | cons f l ih => simp only [sumF, List.length_cons, Fld.sz]; omega
theorem sumF_mem {L : List Fld} {f : Fld} (h : f ∈ L) : f.sz ≤ sumF L := by
  induction L with
  | nil => cases h
  | cons g l ih =>
    rcases List.mem_cons.1 h with rfl | h
    · simp only [sumF]; omega
    · have := ih h; simp only [sumF]; omega
theorem chk_light {mx : Int} {L : List Fld} (h : chkN mx L = 0) : L.length ≤ 128 ∧ ∀ f ∈ L, lightF f = true := by
  obtain ⟨h1, h2, h3, _⟩ := chk_sum h
  have := sumF_len L
  refine ⟨by omega, fun f hf => ?_⟩
  have := sumF_mem hf
  unfold Fld.sz at this
  simp only [lightF, Bool.and_eq_true, decide_eq_true_eq]
  omega
end Go.Proofs.Yteceinojmdgmeaa

