/- footmanref04.Resize. -/
import Derived.Test.YteceinojmdgmeaaC34
import Derived.Test.YteceinojmdgmeaaC27
namespace Go.Proofs.Yteceinojmdgmeaa
open Go.RowKit
set_option linter.unusedVariables false
set_option linter.unusedSimpArgs false

/-- A table of the document's, and the result's row behind it. -/
structure Dt (w W : World) (mx : Int) (v : Value) : Prop where
  tb : W.heap[w.heap.size]? = some (.cells #[.int .i64 mx, v] 38 (0, 0))
  rs : W.heap[w.heap.size + 1]? = some (.cells #[.int .i64 0, .slice none 0 0] 38 (0, 0))
  below : Below w.heap.size w W
  lt : w.heap.size + 1 < W.heap.size
theorem Dt.step {w W W' : World} {mx : Int} {v : Value} (h : Dt w W mx v) (hb : Below W.heap.size W W') : Dt w W' mx v :=
  ⟨(hb.block _ (by have := h.lt; omega)).trans h.tb, (hb.block _ h.lt).trans h.rs, bs_hd h.below hb, Nat.lt_of_lt_of_le h.lt hb.size⟩
theorem Dt.c0 {w W : World} {mx : Int} {v : Value} (h : Dt w W mx v) : W.cell? ⟨w.heap.size, 0, none⟩ = some (.int .i64 mx) := cell_of_row _ _ 0 _ _ _ h.tb
theorem Dt.c1 {w W : World} {mx : Int} {v : Value} (h : Dt w W mx v) : W.cell? ⟨w.heap.size, 1, none⟩ = some v := cell_of_row _ _ 1 _ _ _ h.tb
theorem Dt.new (w : World) (mx : Int) (v : Value) : Dt w ((w.alloc (.cells #[.int .i64 mx, v] 38)).alloc (.cells #[.int .i64 0, .slice none 0 0] 38)) mx v :=
  ⟨two0 _ _ _, two1 _ _ _, bs_hd ((Below.refl _ _).alloc (Nat.le_refl _) _) ((Below.refl _ _).alloc (Nat.le_refl _) _), by simp⟩
def DResPost (oa : Option Addr) (mx most : Int) (L : List Fld) (w : World) (e : Ending) (w' : World) : Prop :=
  ∃ ob nb cb, e = .returned (.tuple #[.agg #[.int .i64 (resM mx most L), .slice ob nb cb], .int .i64 (resE mx most L)]) ∧ (resL mx most L).length = nb ∧ nb ≤ cb ∧ FieldsN w' ob (resL mx most L) ∧
    ((ob = oa ∧ resL mx most L = L) ∨ ∀ a, ob = some a → w.heap.size ≤ a.block) ∧ Below w.heap.size w w'
theorem fields_kept {w W W' : World} {oa : Option Addr} {L : List Fld} (hf : FieldsN w oa L) (h : Below w.heap.size w W) : FieldsN W oa L := hf.below h
set_option maxRecDepth 100000 in
set_option maxHeartbeats 4000000 in
theorem dresize_any (oa : Option Addr) (n cap : Nat) (L : List Fld) (hn : L.length = n) (hnc : n ≤ cap) (hl : ∀ f ∈ L, lightF f = true) (hn30 : n ≤ 1000) (mx most : Int) (w : World) (hf : FieldsN w oa L) :
    Calls Try.prog 41 #[.agg #[.int .i64 mx, .slice oa n cap], .int .i64 most] w (DResPost oa mx most L w) := by
  have HH := Lib.hid (Dt.new w mx (.slice oa n cap))
  have HFW := Lib.hid (show ∀ W, Below w.heap.size w W → FieldsN W oa L from fun W hW => hf.below hW)
  have HCK := Lib.hid (fun W (hW : Below w.heap.size w W) => refCheck_any mx oa n cap L hn hl hn30 W (hf.below hW))
  have HFT := Lib.hid (fun W (hW : Below w.heap.size w W) => fit_any oa n cap L hn hl hn30 hnc most W (hf.below hW))
  have HN := Lib.hid hn
  have HM : Hid (resM mx most L = if chkN mx L ≠ 0 then mx else if most < 0 ∨ 4096 < most then mx else most) := Lib.hid rfl
  have HL : Hid (resL mx most L = if chkN mx L ≠ 0 then L else if most < 0 ∨ 4096 < most then L else L.take (fitN L most L.length)) := Lib.hid rfl
  have HE : Hid (resE mx most L = if chkN mx L ≠ 0 then chkN mx L else if most < 0 ∨ 4096 < most then 8 else 0) := Lib.hid rfl
  unfold DResPost
  generalize resM mx most L = M at HM ⊢
  generalize resL mx most L = R at HL ⊢
  generalize resE mx most L = E at HE ⊢
  generalize chkN mx L = ck at HCK HM HL HE
  unfold FitPost at HFT
  clear hf hn hl
  by_cases hk : ck = 0
  · have hk2 : ¬ (ck ≠ 0) := fun h => h hk
    rw [if_neg hk2] at HM HL HE
    subst hk
    clear hk2
    by_cases hr : most < 0 ∨ 4096 < most
    · rw [if_pos hr] at HM HL HE
      have e1 := HM.out.symm; have e2 := HL.out.symm; have e3 := HE.out.symm
      subst e1; subst e2; subst e3
      clear HM HL HE
      rcases hr with hr | hr
      · have q1 : decide (most < 0) = true := decide_eq_true hr
        clear hr
        go_enter Try.func41, Try.ntmps41
        go_upto_region 1 with fail
        generalize ((w.alloc (.cells #[.int .i64 mx, .slice oa n cap] 38)).alloc (.cells #[.int .i64 0, .slice none 0 0] 38)) = w1 at HH ⊢
        have x0 := HH.out.c0
        have x1 := HH.out.c1
        go_wp2_with (first | (go_at_call 46; refine (HCK.out _ HH.out.below).mono ?_; rintro e w2 ⟨rfl, hb⟩; replace HH := Lib.hid (HH.out.step hb); clear hb; have x0 := HH.out.c0; have x1 := HH.out.c1) | (refine wpList_store_row rfl _ _ _ rfl (w.heap.size + 1) #[.int .i64 mx, .slice oa n cap] rfl rfl _ _ HH.out.rs (by kernel_rfl) rfl (by kernel_rfl) ?_))
        exact bodyPost_ret (v := .tuple #[.agg #[.int .i64 mx, .slice oa n cap], .int .i64 8]) (res_cell2 rfl _ _ (w.heap.size + 1) _ _ (0, 0) _ rfl (setRow_heap _ _ _ _ _ _ HH.out.rs) Try.underlying38 rfl (by kernel_rfl) _ rfl) rfl
          ⟨oa, n, cap, rfl, HN.out, hnc, HFW.out _ (below_row HH.out.below (by omega) _), .inl ⟨rfl, by trivial⟩, below_row HH.out.below (by omega) _⟩
      · have q1 : decide (most < 0) = false := decide_eq_false (by omega)
        have q2 : decide (4096 < most) = true := decide_eq_true hr
        clear hr
        go_enter Try.func41, Try.ntmps41
        go_upto_region 1 with fail
        generalize ((w.alloc (.cells #[.int .i64 mx, .slice oa n cap] 38)).alloc (.cells #[.int .i64 0, .slice none 0 0] 38)) = w1 at HH ⊢
        have x0 := HH.out.c0
        have x1 := HH.out.c1
        go_wp2_with (first | (go_at_call 46; refine (HCK.out _ HH.out.below).mono ?_; rintro e w2 ⟨rfl, hb⟩; replace HH := Lib.hid (HH.out.step hb); clear hb; have x0 := HH.out.c0; have x1 := HH.out.c1) | (refine wpList_store_row rfl _ _ _ rfl (w.heap.size + 1) #[.int .i64 mx, .slice oa n cap] rfl rfl _ _ HH.out.rs (by kernel_rfl) rfl (by kernel_rfl) ?_))
        exact bodyPost_ret (v := .tuple #[.agg #[.int .i64 mx, .slice oa n cap], .int .i64 8]) (res_cell2 rfl _ _ (w.heap.size + 1) _ _ (0, 0) _ rfl (setRow_heap _ _ _ _ _ _ HH.out.rs) Try.underlying38 rfl (by kernel_rfl) _ rfl) rfl
          ⟨oa, n, cap, rfl, HN.out, hnc, HFW.out _ (below_row HH.out.below (by omega) _), .inl ⟨rfl, by trivial⟩, below_row HH.out.below (by omega) _⟩
    · rw [if_neg hr] at HM HL HE
      have e1 := HM.out.symm; have e2 := HL.out.symm; have e3 := HE.out.symm
      subst e1; subst e3
      clear HM HE
      rw [e2] at HFT
      clear e2 HL
      have q1 : decide (most < 0) = false := decide_eq_false (by omega)
      have q2 : decide (4096 < most) = false := decide_eq_false (by omega)
      clear hr
      go_enter Try.func41, Try.ntmps41
      go_upto_region 1 with fail
      generalize ((w.alloc (.cells #[.int .i64 mx, .slice oa n cap] 38)).alloc (.cells #[.int .i64 0, .slice none 0 0] 38)) = w1 at HH ⊢
      have x0 := HH.out.c0
      have x1 := HH.out.c1
      go_wp2_with (first | (go_at_call 46; refine (HCK.out _ HH.out.below).mono ?_; rintro e w2 ⟨rfl, hb⟩; replace HH := Lib.hid (HH.out.step hb); clear hb; have x0 := HH.out.c0; have x1 := HH.out.c1) | (go_at_call 67; refine (HFT.out _ HH.out.below).mono ?_; rintro e w3 ⟨v, rfl, ho, hb⟩; obtain ⟨ob, cb, rfl, hf5, hcb, hx5⟩ := ho.form; have HX5 := Lib.hid (show ∀ a, ob = some a → w.heap.size + 1 < a.block from fun a ha => by have h1 := (hx5.2 a ha).1; have h2 := HH.out.lt; omega); replace HH := Lib.hid (HH.out.step hb); have HV5 := Lib.hid (And.intro hcb hf5); clear hcb hf5 hx5 ho hb) | (refine wpList_store_row rfl _ _ _ rfl (w.heap.size + 1) #[.int .i64 most, .slice ob R.length cb] rfl rfl _ _ HH.out.rs (by kernel_rfl) rfl (by kernel_rfl) ?_))
      exact bodyPost_ret (v := .tuple #[.agg #[.int .i64 most, .slice ob R.length cb], .int .i64 0]) (res_cell2 rfl _ _ (w.heap.size + 1) _ _ (0, 0) _ rfl (setRow_heap _ _ _ _ _ _ HH.out.rs) Try.underlying38 rfl (by kernel_rfl) _ rfl) rfl
        ⟨ob, R.length, cb, rfl, rfl, HV5.out.1, HV5.out.2.setRow (fun _ a ha => by have := HX5.out a ha; omega) _, .inr (fun a ha => by have := HX5.out a ha; omega), below_row HH.out.below (by omega) _⟩
  · rw [if_pos hk] at HM HL HE
    have e1 := HM.out.symm; have e2 := HL.out.symm; have e3 := HE.out.symm
    subst e1; subst e2; subst e3
    clear HM HL HE
    have q1 : (ck == 0) = false := beq_eq_false_iff_ne.2 hk
    have q2 : (ck != 0) = true := by rw [bne, q1]; rfl
    clear hk
    go_enter Try.func41, Try.ntmps41
    go_upto_region 1 with fail
    generalize ((w.alloc (.cells #[.int .i64 mx, .slice oa n cap] 38)).alloc (.cells #[.int .i64 0, .slice none 0 0] 38)) = w1 at HH ⊢
    have x0 := HH.out.c0
    have x1 := HH.out.c1
    go_wp2_with (first | (go_at_call 46; refine (HCK.out _ HH.out.below).mono ?_; rintro e w2 ⟨rfl, hb⟩; replace HH := Lib.hid (HH.out.step hb); clear hb; have x0 := HH.out.c0; have x1 := HH.out.c1) | (refine wpList_store_row rfl _ _ _ rfl (w.heap.size + 1) #[.int .i64 mx, .slice oa n cap] rfl rfl _ _ HH.out.rs (by kernel_rfl) rfl (by kernel_rfl) ?_))
    exact bodyPost_ret (v := .tuple #[.agg #[.int .i64 mx, .slice oa n cap], .int .i64 ck]) (res_cell2 rfl _ _ (w.heap.size + 1) _ _ (0, 0) _ rfl (setRow_heap _ _ _ _ _ _ HH.out.rs) Try.underlying38 rfl (by kernel_rfl) _ rfl) rfl
      ⟨oa, n, cap, rfl, HN.out, hnc, HFW.out _ (below_row HH.out.below (by omega) _), .inl ⟨rfl, by trivial⟩, below_row HH.out.below (by omega) _⟩
end Go.Proofs.Yteceinojmdgmeaa

