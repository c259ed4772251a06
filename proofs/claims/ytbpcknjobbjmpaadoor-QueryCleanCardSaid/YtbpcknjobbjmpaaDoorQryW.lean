/- What every right program reads of some texts. -/
import Derived.Test.YtbpcknjobbjmpaaDoorQryK
import Derived.Test.YtbpcknjobbjmpaaDoorQryG
namespace Go.Proofs.YtbpcknjobbjmpaaDoor
open Go.RowKit
set_option linter.unusedVariables false
set_option linter.unusedSimpArgs false

def a1S : ByteArray := ⟨#[97, 37, 50, 48, 98, 37, 50, 102]⟩
def a2S : ByteArray := ⟨#[97, 37, 50]⟩
def a3S : ByteArray := ⟨#[37, 50, 120]⟩
def a4S : ByteArray := ⟨#[97, 61, 49, 38, 38, 98, 38, 37, 54, 49, 61, 61]⟩
def a5S : ByteArray := ⟨#[47, 120, 63, 121, 63, 122]⟩
def a6S : ByteArray := ⟨#[47, 97, 47, 46, 47, 98, 47, 46, 46, 47, 99, 63, 120]⟩
def a7S : ByteArray := ⟨#[97, 32, 98, 47]⟩
theorem dec_a1 : qdec a1S = (⟨#[97, 32, 98, 47]⟩, 0) := by
  have e : bytesU a1S = [97, 37, 50, 48, 98, 37, 50, 102] := by decide
  unfold qdec
  rw [e, decL_plain _ _ _ (by decide), decL_code, if_pos (by decide), decL_plain _ _ _ (by decide), decL_code, if_pos (by decide), decL_nil]
  rfl
theorem dec_a2 : qdec a2S = (⟨#[]⟩, 3) := by
  have e : bytesU a2S = [97, 37, 50] := by decide
  unfold qdec
  rw [e, decL_plain _ _ _ (by decide), decL_cut1]
  rfl
theorem dec_a3 : qdec a3S = (⟨#[]⟩, 4) := by
  have e : bytesU a3S = [37, 50, 120] := by decide
  unfold qdec
  rw [e, decL_code, if_neg (by decide)]
  rfl
theorem dec_one (c : UInt8) (h : c.toNat ≠ 37) : qdec ⟨#[c]⟩ = (⟨#[c]⟩, 0) := by
  have e : bytesU ⟨#[c]⟩ = [c.toNat] := rfl
  unfold qdec
  rw [e, decL_plain _ _ _ h, decL_nil]
  simp [bsB]
theorem dec_em : qdec ⟨#[]⟩ = (⟨#[]⟩, 0) := dec_q1
theorem dec_61 : qdec ⟨#[37, 54, 49]⟩ = (⟨#[97]⟩, 0) := by
  have e : bytesU ⟨#[37, 54, 49]⟩ = [37, 54, 49] := by decide
  unfold qdec
  rw [e, decL_code, if_pos (by decide), decL_nil]
  rfl
def prA : Pr := ⟨⟨#[97]⟩, ⟨#[49]⟩⟩
def prB : Pr := ⟨⟨#[98]⟩, ⟨#[]⟩⟩
def prC : Pr := ⟨⟨#[97]⟩, ⟨#[61]⟩⟩
theorem pair_1 : pairT ⟨#[97, 61, 49]⟩ = (prA, 0) := by
  have e : cutS ⟨#[97, 61, 49]⟩ 61 = (⟨#[97]⟩, ⟨#[49]⟩, true) := by kernel_rfl
  unfold pairT
  rw [e]
  simp only
  rw [dec_one 97 (by decide), dec_one 49 (by decide)]
  rfl
theorem pair_2 : pairT ⟨#[98]⟩ = (prB, 0) := by
  have e : cutS ⟨#[98]⟩ 61 = (⟨#[98]⟩, ⟨#[]⟩, false) := by kernel_rfl
  unfold pairT
  rw [e]
  simp only
  rw [dec_one 98 (by decide), dec_em]
  rfl
theorem pair_3 : pairT ⟨#[37, 54, 49, 61, 61]⟩ = (prC, 0) := by
  have e : cutS ⟨#[37, 54, 49, 61, 61]⟩ 61 = (⟨#[37, 54, 49]⟩, ⟨#[61]⟩, true) := by kernel_rfl
  unfold pairT
  rw [e]
  simp only
  rw [dec_61, dec_one 61 (by decide)]
  rfl
theorem parse_a4 : parseT a4S = ([prA, prB, prC], 0) := by
  have e : partsS a4S 38 = [⟨#[97, 61, 49]⟩, ⟨#[]⟩, ⟨#[98]⟩, ⟨#[37, 54, 49, 61, 61]⟩] := by kernel_rfl
  have e2 : parseA [] [⟨#[97, 61, 49]⟩, ⟨#[]⟩, ⟨#[98]⟩, ⟨#[37, 54, 49, 61, 61]⟩] = ([prA, prB, prC], 0) := by
    rw [parseA, if_neg (by decide), pair_1, if_neg (by simp), parseA, if_pos (by decide), parseA, if_neg (by decide), pair_2, if_neg (by simp), parseA, if_neg (by decide), pair_3, if_neg (by simp), parseA]
    rfl
  unfold parseT
  rw [e, e2]
  rfl
theorem find_a4 : findT [prA, prB, prC] ⟨#[97]⟩ = (⟨#[49]⟩, true) := by
  rw [findT, if_pos (by simp [prA])]
  rfl
theorem cut_a5 : cutS a5S 63 = (⟨#[47, 120]⟩, ⟨#[121, 63, 122]⟩, true) := by kernel_rfl
theorem clean_a6 : cleanT a6S = ⟨#[47, 97, 47, 99, 63, 120]⟩ := by kernel_rfl
theorem enc_a7 : encS a7S = ⟨#[97, 37, 50, 48, 98, 37, 50, 70]⟩ := by kernel_rfl
theorem print_a4 : printT [prA, prB] = ⟨#[97, 61, 49, 38, 98, 61]⟩ := by kernel_rfl
theorem OwnP.form1 {t : TypeId} {w : World} {B : Nat} {v : Value} {L : List Pr} (h : OwnP t w B v L) (hn : 0 < L.length) : ∃ g cap, v = .slice (some ⟨g, 0, none⟩) L.length cap ∧ L.length ≤ cap ∧ g < w.heap.size ∧ ∀ j u, (prc L)[j]? = some u → w.cell? ⟨g, j, none⟩ = some u := by
  rcases h.2 with ⟨_, h0⟩ | ⟨g, cap, cur, rfl, hb, hg, h1, h2, _⟩
  · omega
  · refine ⟨g, cap, rfl, h1, (Array.getElem?_eq_some_iff.1 hg).1, fun j u hu => ?_⟩
    have := World.ownsRow.cells h (g := g) rfl j u hu
    rwa [addr_add0] at this
set_option maxRecDepth 100000 in
set_option maxHeartbeats 20000000 in
theorem awake37_any (w : World) (hM : MaxC w) : Calls Tryd.prog 27 #[] w fun e w' => e = .returned (.bool true) ∧ Below w.heap.size w w' := by
  have HM := Lib.hid hM
  have D1 := Lib.hid (show ∀ W, Calls Tryd.prog 29 #[.string ⟨#[97, 37, 50, 48, 98, 37, 50, 102]⟩] W fun e w' => e = .returned (.tuple #[.string ⟨#[97, 32, 98, 47]⟩, .int .i64 0]) ∧ Below W.heap.size W w' from fun W => (qdecode_any a1S (by decide) W).mono fun e w' h => by
    change e = .returned (.tuple #[.string (qdec a1S).1, .int .i64 ((qdec a1S).2 : Nat)]) ∧ _ at h
    rw [dec_a1] at h; exact h)
  have D2 := Lib.hid (show ∀ W, Calls Tryd.prog 29 #[.string ⟨#[97, 37, 50]⟩] W fun e w' => e = .returned (.tuple #[.string ⟨#[]⟩, .int .i64 3]) ∧ Below W.heap.size W w' from fun W => (qdecode_any a2S (by decide) W).mono fun e w' h => by
    change e = .returned (.tuple #[.string (qdec a2S).1, .int .i64 ((qdec a2S).2 : Nat)]) ∧ _ at h
    rw [dec_a2] at h; exact h)
  have D3 := Lib.hid (show ∀ W, Calls Tryd.prog 29 #[.string ⟨#[37, 50, 120]⟩] W fun e w' => e = .returned (.tuple #[.string ⟨#[]⟩, .int .i64 4]) ∧ Below W.heap.size W w' from fun W => (qdecode_any a3S (by decide) W).mono fun e w' h => by
    change e = .returned (.tuple #[.string (qdec a3S).1, .int .i64 ((qdec a3S).2 : Nat)]) ∧ _ at h
    rw [dec_a3] at h; exact h)
  have P1 := Lib.hid (show ∀ W, MaxC W → Calls Tryd.prog 34 #[.string ⟨#[97, 61, 49, 38, 38, 98, 38, 37, 54, 49, 61, 61]⟩] W fun e w' => ∃ g cap, e = .returned (.tuple #[.slice (some ⟨g, 0, none⟩) 3 cap, .int .i64 0]) ∧ 3 ≤ cap ∧ g < w'.heap.size ∧ (∀ j u, (prc [prA, prB, prC])[j]? = some u → w'.cell? ⟨g, j, none⟩ = some u) ∧ Below W.heap.size W w' from fun W hW => (parse_any a4S (by decide) W hW).mono fun e w' h => by
    unfold ParsePost at h
    rw [parse_a4] at h
    obtain ⟨v, rfl, ho, hb⟩ := h
    obtain ⟨g, cap, rfl, hc, hg, hcs⟩ := ho.form1 (by decide)
    exact ⟨g, cap, rfl, hc, hg, hcs, hb⟩)
  have F1 := Lib.hid (show ∀ W g cap, (∀ j u, (prc [prA, prB, prC])[j]? = some u → W.cell? ⟨g, j, none⟩ = some u) → Calls Tryd.prog 48 #[.slice (some ⟨g, 0, none⟩) 3 cap, .string ⟨#[97]⟩] W fun e w' => e = .returned (.tuple #[.string ⟨#[49]⟩, .bool true]) ∧ Below W.heap.size W w' from fun W g cap h => by
    have := find_any (some ⟨g, 0, none⟩) 3 cap [prA, prB, prC] rfl (by omega) ⟨#[97]⟩ W (fun i f hf => by
      obtain ⟨q1, q2⟩ := prc_get _ i f hf
      exact ⟨g, 0, rfl, by rw [Nat.zero_add]; exact h _ _ q1, by rw [Nat.zero_add]; exact h _ _ q2⟩)
    rw [find_a4] at this
    exact this)
  have S1 := Lib.hid (show ∀ W, MaxC W → Calls Tryd.prog 31 #[.string ⟨#[47, 120, 63, 121, 63, 122]⟩] W fun e w' => e = .returned (.tuple #[.string ⟨#[47, 120]⟩, .string ⟨#[121, 63, 122]⟩, .bool true]) ∧ Below W.heap.size W w' from fun W hW => by
    have := split_any a5S (by decide) W hW
    rw [cut_a5] at this
    exact this)
  have K1 := Lib.hid (show ∀ W, MaxC W → Calls Tryd.prog 30 #[.string ⟨#[47, 97, 47, 46, 47, 98, 47, 46, 46, 47, 99, 63, 120]⟩] W fun e w' => e = .returned (.string ⟨#[47, 97, 47, 99, 63, 120]⟩) ∧ Below W.heap.size W w' from fun W hW => by
    have := clean_any a6S (by decide) W hW
    rw [clean_a6] at this
    exact this)
  have N1 := Lib.hid (show ∀ W, Calls Tryd.prog 28 #[.string ⟨#[97, 32, 98, 47]⟩] W fun e w' => e = .returned (.string ⟨#[97, 37, 50, 48, 98, 37, 50, 70]⟩) ∧ Below W.heap.size W w' from fun W => by
    have := encode_any a7S (by decide) W
    change Calls Tryd.prog 28 #[.string a7S] W (fun e w' => e = .returned (.string (encS a7S)) ∧ Below W.heap.size W w') at this
    rw [enc_a7] at this
    exact this)
  have Q1 := Lib.hid (show ∀ W g cap, (∀ j u, (prc [prA, prB, prC])[j]? = some u → W.cell? ⟨g, j, none⟩ = some u) → Calls Tryd.prog 32 #[.slice (some ⟨g, 0, none⟩) 2 cap] W fun e w' => e = .returned (.string ⟨#[97, 61, 49, 38, 98, 61]⟩) ∧ Below W.heap.size W w' from fun W g cap h => by
    have := print_any (some ⟨g, 0, none⟩) 2 cap [prA, prB] rfl (by omega) (by intro p hp; simp at hp; rcases hp with rfl | rfl <;> decide) W (fun i f hf => by
      have hf' : [prA, prB, prC][i]? = some f := by
        match i, hf with
        | 0, hf => exact hf
        | 1, hf => exact hf
        | i + 2, hf => simp at hf
      obtain ⟨q1, q2⟩ := prc_get _ i f hf'
      exact ⟨g, 0, rfl, by rw [Nat.zero_add]; exact h _ _ q1, by rw [Nat.zero_add]; exact h _ _ q2⟩)
    rw [print_a4] at this
    exact this)
  have T1 := Lib.hid (show ∀ W, MaxC W → Calls Tryd.prog 49 #[.string ⟨#[47, 97, 37, 50, 70, 98, 47, 47, 99, 63, 100]⟩] W (PartsPost W) from fun W hW => parts_awake W hW)
  unfold PartsPost at T1
  have HCB := Lib.hid (show ∀ (W W' : World) (g : Nat), g < W.heap.size → (∀ j u, (prc [prA, prB, prC])[j]? = some u → W.cell? ⟨g, j, none⟩ = some u) → Below W.heap.size W W' → (∀ j u, (prc [prA, prB, prC])[j]? = some u → W'.cell? ⟨g, j, none⟩ = some u) from fun W W' g hg h hb j u hu => (cell_eq (a := ⟨g, j, none⟩) (hb.block g hg)).trans (h j u hu))
  go_enter Tryd.func27, Tryd.ntmps27
  go_upto_region 7 with (first
    | (go_at_call 29; first
        | ((with_reducible refine (D1.out _).mono ?_); rintro e w1 ⟨rfl, hb⟩; have HL1 := Lib.hid hb; clear D1 hb)
        | ((with_reducible refine (D2.out _).mono ?_); rintro e w2 ⟨rfl, hb⟩; have HL2 := Lib.hid (HL1.out.trans (hb.mono HL1.out.size)); clear D2 hb)
        | ((with_reducible refine (D3.out _).mono ?_); rintro e w3 ⟨rfl, hb⟩; have HL3 := Lib.hid (HL2.out.trans (hb.mono HL2.out.size)); clear D3 hb))
    | (go_at_call 34; refine (P1.out _ (HM.out.below HL3.out)).mono ?_; rintro e w4 ⟨g, cap, rfl, hcap, hg4, hcs, hb⟩; have HL4 := Lib.hid (HL3.out.trans (hb.mono HL3.out.size)); have HG4 := Lib.hid hg4; have HC4 := Lib.hid hcs; clear hb hcs hg4)
    | (go_at_call 48; refine (F1.out _ _ _ HC4.out).mono ?_; rintro e w5 ⟨rfl, hb⟩; have HL5 := Lib.hid (HL4.out.trans (hb.mono HL4.out.size)); have HC5 := Lib.hid (HCB.out _ _ _ HG4.out HC4.out hb); have HG5 := Lib.hid (Nat.lt_of_lt_of_le HG4.out hb.size); clear hb)
    | (go_at_call 49; refine (T1.out _ (HM.out.below HL5.out)).mono ?_; rintro e w6 ⟨g2, cap2, rfl, hp0, hg2, hb⟩; have HL6 := Lib.hid (HL5.out.trans (hb.mono HL5.out.size)); have HC6 := Lib.hid (HCB.out _ _ _ HG5.out HC5.out hb); have HG6 := Lib.hid (Nat.lt_of_lt_of_le HG5.out hb.size); have HP6 := Lib.hid hp0; have HQ6 := Lib.hid hg2; clear hb hp0 hg2))
  have l4 : (2 : Int) ≤ (cap : Int) := by omega
  have e4 : prc [prA, prB, prC] = [.string ⟨#[97]⟩, .string ⟨#[49]⟩, .string ⟨#[98]⟩, .string ⟨#[]⟩, .string ⟨#[97]⟩, .string ⟨#[61]⟩] := rfl
  have x4 := HC6.out 4 _ rfl
  have x5 := HC6.out 5 _ rfl
  have y0 := HP6.out
  have HX := Lib.hid (show ∀ W, Below w6.heap.size w6 W → W.cell? ⟨g, 4, none⟩ = some (.string ⟨#[97]⟩) ∧ W.cell? ⟨g, 5, none⟩ = some (.string ⟨#[61]⟩) ∧ W.cell? ⟨g2, 0, none⟩ = some (.string ⟨#[97, 47, 98]⟩) from fun W hb => ⟨HCB.out _ _ _ HG6.out HC6.out hb 4 _ rfl, HCB.out _ _ _ HG6.out HC6.out hb 5 _ rfl, (cell_eq (a := ⟨g2, 0, none⟩) (hb.block g2 HQ6.out)).trans HP6.out⟩)
  clear x4 x5 y0 e4
  go_wp2_with (first
    | (go_at_call 31; refine (S1.out _ (HM.out.below HL6.out)).mono ?_; rintro e w7 ⟨rfl, hb⟩; have HL7 := Lib.hid (HL6.out.trans (hb.mono HL6.out.size)); have HK7 := Lib.hid hb; obtain ⟨x4, x5, y0⟩ := HX.out _ hb; clear hb)
    | (go_at_call 30; refine (K1.out _ (HM.out.below HL7.out)).mono ?_; rintro e w8 ⟨rfl, hb⟩; have HL8 := Lib.hid (HL7.out.trans (hb.mono HL7.out.size)); have HK8 := Lib.hid (HK7.out.trans (hb.mono HK7.out.size)); clear hb)
    | (go_at_call 28; refine (N1.out _).mono ?_; rintro e w9 ⟨rfl, hb⟩; have HL9 := Lib.hid (HL8.out.trans (hb.mono HL8.out.size)); have HK9 := Lib.hid (HK8.out.trans (hb.mono HK8.out.size)); clear hb)
    | (go_at_call 32; refine (Q1.out _ _ _ (HCB.out _ _ _ HG6.out HC6.out HK9.out)).mono ?_; rintro e w10 ⟨rfl, hb⟩; have HL10 := Lib.hid (HL9.out.trans (hb.mono HL9.out.size)); clear hb))
  go_ret
  exact ⟨rfl, HL10.out⟩
#print axioms awake37_any
end Go.Proofs.YtbpcknjobbjmpaaDoor
