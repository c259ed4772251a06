/- The document's tables: fit. -/
import Derived.Test.YteceinojmdgmeaaC26
import Derived.Test.YteceinojmdgmeaaC21
namespace Go.Proofs.Yteceinojmdgmeaa
open Go.RowKit
set_option linter.unusedVariables false
set_option linter.unusedSimpArgs false

theorem sumF_mono (L : List Fld) : ∀ {a b : Nat}, a ≤ b → sumF (L.take a) ≤ sumF (L.take b) := by
  intro a b h
  have e : L.take b = L.take a ++ (L.take b).drop a := by
    have := (List.take_append_drop a (L.take b)).symm
    rwa [List.take_take, Nat.min_eq_left h] at this
  rw [e, sumF_append]
  omega
theorem fit_stop (L : List Fld) (most : Int) : ∀ (n i : Nat), i ≤ n → (i = 0 ∨ (sumF (L.take i) : Int) ≤ most) → (i = n ∨ most < (sumF (L.take (i + 1)) : Nat)) → fitN L most n = i
  | 0, i, h, _, _ => by
    obtain rfl : i = 0 := by omega
    rfl
  | n + 1, i, h, h1, h2 => by
    unfold fitN
    by_cases hi : i = n + 1
    · subst hi
      rw [if_neg (by rcases h1 with h | h <;> omega)]
    · have h3 : most < (sumF (L.take (i + 1)) : Nat) := by rcases h2 with h | h; exact absurd h hi; exact h
      have h4 := sumF_mono L (show i + 1 ≤ n + 1 by omega)
      rw [if_pos (by omega)]
      exact fit_stop L most n i (by omega) h1 (.inr h3)
theorem bs_hd {w Wc W' : World} (h : Below w.heap.size w Wc) (hb : Below Wc.heap.size Wc W') : Below w.heap.size w W' := h.trans (hb.mono h.size)
def FitPost (L : List Fld) (most : Int) (w : World) (e : Ending) (w' : World) : Prop := ∃ v, e = .returned v ∧ OwnF w' w.heap.size v (L.take (fitN L most L.length)) ∧ Below w.heap.size w w'
set_option maxRecDepth 100000 in
set_option maxHeartbeats 4000000 in
theorem fit_any (oa : Option Addr) (n cap : Nat) (L : List Fld) (hn : L.length = n) (hl : ∀ f ∈ L, lightF f = true) (hn30 : n ≤ 1000) (hnc : n ≤ cap) (most : Int) (w : World) (hf : FieldsN w oa L) :
    Calls Try.prog 67 #[.slice oa n cap, .int .i64 most] w (FitPost L most w) := by
  obtain ⟨i0, hi0, hz0, hz1, hz2⟩ := info_parts field_info
  have HI := Lib.hid hi0
  have HZ0 := Lib.hid hz0
  have HZ1 := Lib.hid hz1
  have HZ2 := Lib.hid hz2
  have HF := Lib.hid hf
  have HN := Lib.hid hn
  have HL := Lib.hid hl
  clear hi0 hz0 hz1 hz2 hf hn hl
  go_enter Try.func67, Try.ntmps67
  go_wp2_with fail
  go_loopw [5, 6] (fun ov ii wr => ∃ (k : Nat) (vv : Value), ov = vv ∧ ii = .int .i64 k ∧ k ≤ n ∧ (k = 0 ∨ (sumF (L.take k) : Int) ≤ most) ∧ OwnF wr w.heap.size vv (L.take k) ∧ Below w.heap.size w wr) (fun _ ii _ => n - (intOf ii).toNat)
  case atStart => exact ⟨0, _, rfl, rfl, Nat.zero_le _, .inl rfl, World.ownsRow_nil _ _ _ _, Below.refl _ _⟩
  case round =>
    obtain ⟨k, v, hv, rfl, hk, hsm, hown, hb⟩ := hrel
    obtain rfl := hv.symm
    have HO := Lib.hid hown
    have HB := Lib.hid hb
    have HSM := Lib.hid hsm
    clear hown hb hv hsm
    have hw8 : IntKind.i64.wrap ((k : Int) + 1) = (k : Int) + 1 := IntWalk.i64_in _ (by omega)
    by_cases hlt : k < n
    · have q1 : decide ((k : Int) < (n : Int)) = true := decide_eq_true (by omega)
      have hkc : k + 1 ≤ cap := by omega
      have HSU := Lib.hid (fun W hW => sum_any oa (k + 1) cap (L.take (k + 1)) (by rw [List.length_take, HN.out]; omega) (fun f hf => HL.out f (List.mem_of_mem_take hf)) (by omega) W hW)
      have HFT := Lib.hid (show FieldsN wr oa (L.take (k + 1)) from by
        intro i f hf
        rw [List.getElem?_take] at hf
        split at hf
        · exact HF.out.below HB.out i f hf
        · cases hf)
      have HFS := Lib.hid (fit_stop L most n k hk HSM.out)
      have HS2 := Lib.hid (show (sumF (L.take (k + 1)) : Int) ≤ most ∨ most < (sumF (L.take (k + 1)) : Nat) from by omega)
      obtain ⟨f, hfk⟩ : ∃ f, L[k]? = some f := ⟨L[k]'(by rw [HN.out]; exact hlt), List.getElem?_eq_getElem _⟩
      have HTK := Lib.hid (show L.take (k + 1) = L.take k ++ [f] from by rw [List.take_add_one, hfk]; rfl)
      obtain ⟨b, o, hoa, hc0, hc1, hc2⟩ := (HF.out.below HB.out) k f hfk
      subst hoa
      clear hfk
      have hec : ((k + 1 : Nat) : Int) = (k : Int) + 1 := by omega
      rcases HS2.out with hs | hs
      · have q2 : decide ((sumF (L.take (k + 1)) : Int) ≤ most) = true := decide_eq_true hs
        have HSX := Lib.hid hs
        generalize sumF (L.take (k + 1)) = x at HSU q2 hs
        have HVL := Lib.hid (show (L.take k).length ≤ 1000 from by rw [List.length_take]; omega)
        have HONE := Lib.hid (show ∀ (a b : ByteArray) (c : Bool), ∀ u ∈ [Value.string a, .string b, .bool c], u.oneCell' = true from by intro a b c u hu; simp at hu; rcases hu with rfl | rfl | rfl <;> rfl)
        obtain ⟨nm, vl, nv⟩ := f
        simp only at hc0 hc1 hc2
        have HC := Lib.hid (And.intro hc0 (And.intro hc1 hc2))
        go_wp2_with (first | (go_at_call 25; refine (HSU.out _ HFT.out).mono ?_; rintro e w2 ⟨rfl, hb2⟩; replace HO := Lib.hid (HO.out.step hb2); have HB2 := Lib.hid (bs_hd HB.out hb2); have d0 := (hb2.cell (p := ⟨b, o + k * 3, none⟩) (World.block_lt_of_cell? _ _ HC.out.1)).trans HC.out.1; have d1 := (hb2.cell (p := ⟨b, o + k * 3 + 1, none⟩) (World.block_lt_of_cell? _ _ HC.out.2.1)).trans HC.out.2.1; have d2 := (hb2.cell (p := ⟨b, o + k * 3 + 2, none⟩) (World.block_lt_of_cell? _ _ HC.out.2.2)).trans HC.out.2.2; have HSZ := Lib.hid (show ∀ o : Obj, w.heap.size ≤ (w2.alloc o).heap.size from fun o => by have := HB2.out.size; simp; omega); clear hb2) | (at_builtin; refine wpList_append_own_at _ rfl _ _ 26 rfl w.heap.size 25 i0 _ 3 40 Try.underlying26 HI.out HZ0.out HZ1.out HZ2.out rfl (by omega) _ _ _ rfl (World.ownsRow.alloc HO.out _) ⟨w2.heap.size, 0, none⟩ 1 1 [Value.string nm, .string vl, .bool nv] rfl rfl (cells_new w2 [Value.string nm, .string vl, .bool nv] _) (HONE.out _ _ _) (by unfold maxLen; have := HVL.out; omega) (by have := HVL.out; omega) (HSZ.out _) ?_; intro v7 w7 hown7 hg7 _ _; have HB7 := Lib.hid ((HB2.out.alloc HB2.out.size _).grown hg7 (HSZ.out _) (fun q hq => (World.ownsRow.lt HO.out q hq).1)); have HO7 := Lib.hid (show OwnF w7 w.heap.size v7 (L.take k ++ [⟨nm, vl, nv⟩]) from by unfold OwnF; rw [fcells_append, List.length_append]; exact (by simpa [fcells, Fld.cells] using hown7)); clear hown7 hg7))
        go_roundw
        case rel => exact ⟨k + 1, _, rfl, rfl, hlt, .inr HSX.out, by rw [HTK.out]; exact HO7.out, HB7.out⟩
        case measure => simp [intOf]; omega
      · have q2 : decide ((sumF (L.take (k + 1)) : Int) ≤ most) = false := decide_eq_false (by omega)
        have HFE := Lib.hid (HFS.out (.inr hs))
        generalize sumF (L.take (k + 1)) = x at HSU q2 hs
        go_wp2_with (first | (go_at_call 25; refine (HSU.out _ HFT.out).mono ?_; rintro e w2 ⟨rfl, hb2⟩; replace HO := Lib.hid (HO.out.step hb2); have HB2 := Lib.hid (bs_hd HB.out hb2); clear hb2))
        go_ret
        exact ⟨_, rfl, by rw [HN.out, HFE.out]; exact HO.out, HB2.out⟩
    · obtain rfl : k = n := by omega
      have q1 : decide ((k : Int) < (k : Int)) = false := by simp
      have HFS := Lib.hid (fit_stop L most k k hk HSM.out (.inl rfl))
      go_wp2_with fail
      go_ret
      exact ⟨_, rfl, by rw [HN.out, HFS.out]; exact HO.out, HB.out⟩
end Go.Proofs.Yteceinojmdgmeaa

