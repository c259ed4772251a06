/- HuffBack: what the law's function does: for every two texts it returns true. -/
import Derived.Test.YtmnaljnkgaebkaaDecB
import Derived.Test.YtmnaljnkgaebkaaDecR
namespace Go.Proofs.Ytmnaljnkgaebkaa
open Go.RowKit
set_option linter.unusedVariables false
set_option linter.unusedSimpArgs false

theorem decode_str (p : Nat) (w : World) (hr : Ready p w) (oa : Option Addr) (n cap : Nat) (s : ByteArray) (hs : s.size ≤ 1000) (hn : (encL s.data.toList).length = n) (hb : BytesN w oa (encL s.data.toList)) (hp : ∀ a, oa = some a → a.block ≠ p) (hlen : n ≤ 1000000) :
    Calls Try.prog 22 #[.pointer (some ⟨p, 0, none⟩), .slice oa n cap] w fun e w' => e = .returned (.tuple #[.string s, .int .i64 0]) ∧ Done p w' 1 ∧ Near p w.heap.size w w' := by
  subst hn
  refine (decode_text p w hr oa cap _ _ (dec_enc s.data.toList) hb hp hlen (fun i hi => ?_)).mono ?_
  · rw [List.getD_eq_getElem?_getD, List.getElem?_eq_getElem hi]
    exact encL_byte _ _ (List.getElem_mem hi)
  · rintro e w' ⟨rfl, h⟩
    exact ⟨by simp, h⟩
theorem toList_ne {a b : ByteArray} (h : ¬ a = b) : (a.toList == b.toList) = false := beq_false_of_ne (fun e => h (by
  rw [ByteArray.toList_eq, ByteArray.toList_eq] at e
  cases a; cases b; simp only at e; congr 1; exact Array.toList_inj.1 e))
theorem textBits_le : ∀ l : List UInt8, (textBits l).length ≤ 30 * l.length
  | [] => by simp [textBits]
  | c :: l => by
    have e : textBits (c :: l) = byteBits c ++ textBits l := rfl
    have h := textBits_le l
    have h2 := (len_range c.toNat c.toNat_lt).2
    rw [e, List.length_append, byteBits_len, List.length_cons]
    omega
theorem sizeL_le (s : ByteArray) (h : s.size ≤ 300) : sizeL s.data.toList ≤ 10000 := by
  have h1 := textBits_len s.data.toList
  have h2 := textBits_le s.data.toList
  have h3 : s.data.toList.length = s.size := by rw [Array.length_toList]; rfl
  unfold sizeL
  omega

set_option maxRecDepth 100000 in
set_option maxHeartbeats 2000000 in
theorem back_any (s t : ByteArray) (w : World) : Calls Try.prog 5 #[.string s, .string t] w fun e w' => e = .returned (.bool true) ∧ Below w.heap.size w w' := by
  have hfar : ∀ W, Below w.heap.size w W → Calls Try.prog 14 #[] W fun e w' => e = .returned (.bool true) ∧ Below w.heap.size w w' := fun W hb => (awake_any W).mono fun e w' h => ⟨h.1, hb.trans (h.2.mono hb.size)⟩
  have HF := Lib.hid hfar
  clear hfar
  go_enter Try.func5, Try.ntmps5
  by_cases h1 : s.size ≤ 300
  · by_cases h2 : t.size ≤ 300
    · have h1i : ((s.size : Nat) : Int) ≤ 300 := by omega
      have h2i : ((t.size : Nat) : Int) ≤ 300 := by omega
      go_wp2_with fail
      refine (new_any _).mono ?_
      rintro e w1 ⟨rfl, hB1, hC1⟩
      have HB1 := Lib.hid hB1
      have HC1 := Lib.hid hC1
      clear hB1 hC1
      go_wp2_with fail
      refine (encode_any s (by omega) w1).mono ?_
      rintro e w2 ⟨v1, rfl, hO1, hB2⟩
      have HO1 := Lib.hid hO1
      have HB2 := Lib.hid hB2
      clear hO1 hB2
      obtain ⟨oa1, cap1, hv1, hby, hbl⟩ := ownB_bytes HO1.out
      have HBY1 := Lib.hid hby
      have HBL1 := Lib.hid hbl
      clear hby hbl
      obtain ⟨n1, hn1⟩ : ∃ n1, sizeL s.data.toList = n1 := ⟨_, rfl⟩
      rw [encL_len, hn1] at hv1
      have hn1s : n1 ≤ 10000 := by rw [← hn1]; exact sizeL_le s h1
      have HL1 := Lib.hid ((encL_len s.data.toList).trans hn1)
      subst hv1
      go_wp2_with fail
      refine (encode_any t (by omega) w2).mono ?_
      rintro e w3 ⟨v2, rfl, hO2, hB3⟩
      have HO2 := Lib.hid hO2
      have HB3 := Lib.hid hB3
      clear hO2 hB3
      obtain ⟨oa2, cap2, hv2, hby, hbl⟩ := ownB_bytes HO2.out
      have HBY2 := Lib.hid hby
      have HBL2 := Lib.hid hbl
      clear hby hbl
      obtain ⟨n2, hn2⟩ : ∃ n2, sizeL t.data.toList = n2 := ⟨_, rfl⟩
      rw [encL_len, hn2] at hv2
      have hn2s : n2 ≤ 10000 := by rw [← hn2]; exact sizeL_le t h2
      have HL2 := Lib.hid ((encL_len t.data.toList).trans hn2)
      subst hv2
      have hp1 := HC1.out.lt
      have hs2 := HB2.out.size
      have hs3 := HB3.out.size
      have hne1 : ∀ a, oa1 = some a → a.block ≠ w.heap.size := fun a ha => by have := (HBL1.out a ha).1; omega
      have hne2 : ∀ a, oa2 = some a → a.block ≠ w.heap.size := fun a ha => by have := (HBL2.out a ha).1; omega
      have HNE1 := Lib.hid hne1
      have HNE2 := Lib.hid hne2
      clear hne1 hne2
      have HC3 := Lib.hid ((HC1.out.step (HB2.out.block _ hp1)).step (HB3.out.block _ (by omega)))
      go_wp2_with fail
      refine (decode_str w.heap.size w3 (.inl ⟨_, HC3.out⟩) oa1 n1 cap1 s (by omega) HL1.out (HBY1.out.below HB3.out) HNE1.out (by omega)).mono ?_
      rintro e w4 ⟨rfl, hD4, hN4⟩
      have HD4 := Lib.hid hD4
      have HN4 := Lib.hid hN4
      clear hD4 hN4
      have HBY4 := Lib.hid (HBY2.out.near HNE2.out HN4.out)
      go_wp2_with fail
      refine (decode_str w.heap.size w4 (.inr HD4.out) oa2 n2 cap2 t (by omega) HL2.out HBY4.out HNE2.out (by omega)).mono ?_
      rintro e w5 ⟨rfl, hD5, hN5⟩
      have HD5 := Lib.hid hD5
      have HN5 := Lib.hid hN5
      clear hD5 hN5
      have HBY5 := Lib.hid (HBY4.out.near HNE2.out HN5.out)
      go_wp2_with fail
      refine (new_any _).mono ?_
      rintro e w6 ⟨rfl, hB6, hC6⟩
      have HB6 := Lib.hid hB6
      have HC6 := Lib.hid hC6
      clear hB6 hC6
      have hs4 := HN4.out.size
      have hs5 := HN5.out.size
      have hp6 := HC6.out.lt
      have HNE3 := Lib.hid (show ∀ a, oa2 = some a → a.block ≠ w5.heap.size from fun a ha => by have := (HBL2.out a ha).2; omega)
      go_wp2_with fail
      refine (decode_str w5.heap.size w6 (.inl ⟨_, HC6.out⟩) oa2 n2 cap2 t (by omega) HL2.out (HBY5.out.below HB6.out) HNE3.out (by omega)).mono ?_
      rintro e w7 ⟨rfl, hD7, hN7⟩
      have hB57 : Below w5.heap.size w5 w7 := HB6.out.trans (hN7.below hp6)
      have hD57 := HD5.out.below hB57
      have hN37 : Near w.heap.size w3.heap.size w3 w7 := (HN4.out.trans (HN5.out.mono hs4)).trans ((Near.of hB57).mono (by omega))
      have hN27 : Near w.heap.size w2.heap.size w2 w7 := (Near.of HB3.out).trans (hN37.mono hs3)
      have hN17 : Near w.heap.size w1.heap.size w1 w7 := (Near.of HB2.out).trans (hN27.mono hs2)
      have HFN := Lib.hid (HB1.out.trans (hN17.below hp1))
      have ho1 := ownB_to (HO1.out.step (fun k hk hl => hN27.block k hl (by omega))) (encU_nat s.data.toList).symm
      have HTX1 := Lib.hid (fun W (hb : Below w7.heap.size w7 W) => text_own W w1.heap.size _ (encU s.data.toList) (OwnB.step ho1 (fun k hk hl => hb.block k hl)))
      have ho2 := ownB_to (HO2.out.step (fun k hk hl => hN37.block k hl (by omega))) (encU_nat t.data.toList).symm
      have HTX2 := Lib.hid (fun W (hb : Below w7.heap.size w7 W) => text_own W w2.heap.size _ (encU t.data.toList) (OwnB.step ho2 (fun k hk hl => hb.block k hl)))
      have HD57 := Lib.hid hD57
      have HSZ := Lib.hid (hn1 ▸ size_any s (by omega) w7)
      have HEQ := Lib.hid (show (ByteArray.mk (encU s.data.toList).toArray = ByteArray.mk (encU t.data.toList).toArray) ↔ s = t from ⟨fun h => by
        have e := congrArg (fun b => b.data.toList) h
        simp only [List.toList_toArray] at e
        have e2 := encU_inj e
        cases s; cases t; simp only at e2; congr 1; exact Array.toList_inj.1 e2, fun h => by rw [h]⟩)
      clear hB57 hD57 hN37 hN27 hN17 hD7 hN7 hn1 hn2 HO1 HO2 ho1 ho2
      generalize ByteArray.mk (encU s.data.toList).toArray = A at HTX1 HEQ
      generalize ByteArray.mk (encU t.data.toList).toArray = B at HTX2 HEQ
      by_cases hst : s = t
      · subst hst
        obtain rfl := HEQ.out.2 rfl
        go_wp2_with fail
        refine HSZ.out.mono ?_
        rintro e w8 ⟨rfl, hB8⟩
        have HD8 := Lib.hid (HD57.out.below hB8)
        have HF8 := Lib.hid (HFN.out.trans (hB8.mono HFN.out.size))
        have htx1 := HTX1.out w8 hB8
        have htx2 := HTX2.out w8 hB8
        clear hB8 HTX1 HTX2
        go_wp2_with fail
        refine (built_any _ _ _ HD8.out).mono ?_
        rintro e w9 ⟨rfl, hw⟩
        obtain rfl := hw.symm
        clear hw
        go_wp2_with fail
        refine (HF.out _ HF8.out).mono ?_
        rintro e w10 ⟨rfl, hb⟩
        go_wp2_with fail
        go_ret
        exact ⟨rfl, hb⟩
      · have hAB : ¬ A = B := fun h => hst (HEQ.out.1 h)
        have hAB1 := toList_ne hAB
        have hst1 := toList_ne hst
        go_wp2_with fail
        refine HSZ.out.mono ?_
        rintro e w8 ⟨rfl, hB8⟩
        have HD8 := Lib.hid (HD57.out.below hB8)
        have HF8 := Lib.hid (HFN.out.trans (hB8.mono HFN.out.size))
        have htx1 := HTX1.out w8 hB8
        have htx2 := HTX2.out w8 hB8
        clear hB8 HTX1 HTX2
        go_wp2_with fail
        refine (built_any _ _ _ HD8.out).mono ?_
        rintro e w9 ⟨rfl, hw⟩
        obtain rfl := hw.symm
        clear hw
        go_wp2_with fail
        refine (HF.out _ HF8.out).mono ?_
        rintro e w10 ⟨rfl, hb⟩
        go_wp2_with fail
        go_ret
        exact ⟨rfl, hb⟩
    · have h1i : ((s.size : Nat) : Int) ≤ 300 := by omega
      have h2i : (300 : Int) < ((t.size : Nat) : Int) := by omega
      go_wp2_with fail
      refine (HF.out _ (Below.refl _ _)).mono ?_
      rintro e w' ⟨rfl, hb⟩
      go_wp2_with fail
      go_ret
      exact ⟨rfl, hb⟩
  · have h1i : (300 : Int) < ((s.size : Nat) : Int) := by omega
    go_wp2_with fail
    refine (HF.out _ (Below.refl _ _)).mono ?_
    rintro e w' ⟨rfl, hb⟩
    go_wp2_with fail
    go_ret
    exact ⟨rfl, hb⟩
theorem back_all (s t : ByteArray) (w : World) (_ : s.size ≤ maxLen) (_ : t.size ≤ maxLen) : Calls Try.prog 5 #[.string s, .string t] w fun e w' => e = .returned (.bool true) ∧ Below w.heap.size w w' := back_any s t w
end Go.Proofs.Ytmnaljnkgaebkaa
