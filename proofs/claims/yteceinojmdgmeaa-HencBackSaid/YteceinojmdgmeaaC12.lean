/- repr.GetText: the walk. -/
import Derived.Test.YteceinojmdgmeaaC11
namespace Go.Proofs.Yteceinojmdgmeaa
open Go.RowKit
set_option linter.unusedVariables false
set_option linter.unusedSimpArgs false

set_option maxRecDepth 100000 in
set_option maxHeartbeats 2000000 in
theorem getText_any (oa : Option Addr) (n cap : Nat) (bs : List Nat) (hn : bs.length = n) (hnc : n ≤ cap) (hn100 : n ≤ 1000000) (w : World) (hby : BytesN w oa bs) (hb256 : ∀ i, i < bs.length → bs.getD i 0 < 256) :
    Calls Try.prog 90 #[.slice oa n cap] w (TextGPost bs w) := by
  have HN := Lib.hid hn
  have HBY := Lib.hid hby
  have H256 := Lib.hid hb256
  have HG := Lib.hid (show ∀ W, BytesN W oa bs → Calls Try.prog 89 #[.slice oa n cap, .int .i64 7] W fun e w' => e = .returned (.tuple #[.int .i64 ((getN bs 7).1 : Nat), .int .i64 ((getN bs 7).2.1 : Nat), .int .i64 ((getN bs 7).2.2 : Nat)]) ∧ Below W.heap.size W w' from fun W hW => get_any oa n cap bs hn hn100 7 (by unfold K4; decide) W hW hb256)
  have HOK := Lib.hid (getN_ok bs 7 (by unfold K4; decide))
  have HT := Lib.hid (show textG bs = if (getN bs 7).2.2 ≠ 0 then (ByteArray.empty, 0, (getN bs 7).2.2)
  else if 4096 < (getN bs 7).1 then (ByteArray.empty, 0, 5)
  else if bs.length < (getN bs 7).2.1 + (getN bs 7).1 then (ByteArray.empty, 0, 3)
  else if bs.getD 0 0 < 128 then (bsB ((bs.drop (getN bs 7).2.1).take (getN bs 7).1), (getN bs 7).2.1 + (getN bs 7).1, 0)
  else match decL ((bs.drop (getN bs 7).2.1).take (getN bs 7).1) with
    | none => (ByteArray.empty, 0, 4)
    | some l => (⟨l.toArray⟩, (getN bs 7).2.1 + (getN bs 7).1, 0) from rfl)
  clear hn hby hb256
  generalize getN bs 7 = g at HG HOK HT
  obtain ⟨m, at', er⟩ := g
  simp only at HG HOK HT
  go_enter Try.func90, Try.ntmps90
  go_wp2_with fail
  refine (HG.out _ HBY.out).mono ?_
  rintro e w1 ⟨rfl, hb⟩
  have HB1 := Lib.hid hb
  clear hb
  by_cases her : er = 0
  · subst her
    obtain ⟨h1, h2, h3⟩ := HOK.out rfl
    rw [HN.out] at h2
    have h2' : at' ≤ n := h2
    have HT1 := Lib.hid (HT.out.trans (if_neg (fun h => h rfl)))
    by_cases hm : 4096 < m
    · have q1 : decide ((4096 : Int) < (m : Int)) = true := decide_eq_true (by omega)
      have HE := Lib.hid (HT1.out.trans (if_pos hm))
      go_wp2_with fail
      refine bodyPost_ret (v := .tuple #[.string ⟨#[]⟩, .int .i64 0, .int .i64 5]) (by simp [results, Try.results90, go_sem]) rfl ⟨by rw [HE.out]; rfl, HB1.out⟩
    · have q1 : decide ((4096 : Int) < (m : Int)) = false := decide_eq_false (by omega)
      have HT2 := Lib.hid (HT1.out.trans (if_neg hm))
      have hs1 : IntKind.i64.wrap ((n : Int) - (at' : Int)) = (n : Int) - (at' : Int) := IntWalk.i64_in _ (by omega)
      by_cases hl : n < at' + m
      · have q2 : decide ((n : Int) - (at' : Int) < (m : Int)) = true := decide_eq_true (by omega)
        have HE := Lib.hid (HT2.out.trans (if_pos (by rw [HN.out]; exact hl)))
        go_wp2_with fail
        refine bodyPost_ret (v := .tuple #[.string ⟨#[]⟩, .int .i64 0, .int .i64 3]) (by simp [results, Try.results90, go_sem]) rfl ⟨by rw [HE.out]; rfl, HB1.out⟩
      · have q2 : decide ((n : Int) - (at' : Int) < (m : Int)) = false := decide_eq_false (by omega)
        have HT3 := Lib.hid (HT2.out.trans (if_neg (by rw [HN.out]; exact hl)))
        have hs2 : IntKind.i64.wrap ((at' : Int) + (m : Int)) = (at' : Int) + (m : Int) := IntWalk.i64_in _ (by omega)
        obtain ⟨b, o, rfl, hc0⟩ := (HBY.out.below HB1.out).at (i := 0) (by rw [HN.out]; omega)
        have hc0l := H256.out 0 (by rw [HN.out]; omega)
        have HBYP := Lib.hid (HBY.out.part at' m)
        have HPL := Lib.hid (show ((bs.drop at').take m).length = m from by rw [List.length_take, List.length_drop, HN.out]; omega)
        have HP256 := Lib.hid (show ∀ i, i < ((bs.drop at').take m).length → ((bs.drop at').take m).getD i 0 < 256 from fun i hi => by
          rw [List.length_take, List.length_drop] at hi
          have := H256.out (at' + i) (by omega)
          simp only [List.getD_eq_getElem?_getD] at this ⊢
          rw [List.getElem?_take_of_lt (by omega), List.getElem?_drop]
          exact this)
        have hblt : b < w.heap.size := by
          obtain ⟨b', o', e', hc⟩ := HBY.out.at (i := 0) (by rw [HN.out]; omega)
          obtain ⟨rfl, rfl, _⟩ := Addr.mk.inj (Option.some.inj e')
          exact World.block_lt_of_cell? _ _ hc
        generalize bs.getD 0 0 = c at hc0 hc0l HT3
        generalize (bs.drop at').take m = P at HBYP HPL HP256 HT3
        rw [Nat.add_zero] at hc0
        have hand := u8_and128 c hc0l
        have hx1 : (0 : Int) ≤ (at' : Int) := by omega
        have hx2 : (at' : Int) ≤ (at' : Int) + (m : Int) := by omega
        have hx3 : (at' : Int) + (m : Int) ≤ (cap : Int) := by omega
        have hx4 : (0 : Int) < (n : Int) := by omega
        by_cases hca : cap = at'
        · subst hca
          obtain rfl : m = 0 := by omega
          have hs3 : IntKind.i64.wrap (cap : Int) = (cap : Int) := IntWalk.i64_in _ (by omega)
          have HPA := Lib.hid (show BytesN w (some ⟨b, o, none⟩) P from fun i hi => by rw [HPL.out] at hi; omega)
          clear hx2 hx3 hs2
          go_upto_region 9 with fail
          by_cases hc128 : c < 128
          · rw [if_pos hc128] at hand
            have HE := Lib.hid (HT3.out.trans (if_pos hc128))
            have hcv : (convert 23 9 (.slice (some ⟨b, o, none⟩) 0 0)).run Try.prog w1 = .ok (.string (bsB P)) w1 := conv_bytes w1 _ 0 _ P HPL.out (HPA.out.below HB1.out) HP256.out
            go_wp2_with fail
            refine bodyPost_ret (v := .tuple #[.string (bsB P), .int .i64 (cap : Int), .int .i64 0]) (by simp [results, Try.results90, go_sem]) rfl ⟨by rw [HE.out]; rfl, HB1.out⟩
          · rw [if_neg hc128] at hand
            have HT4 := Lib.hid (HT3.out.trans (if_neg hc128))
            go_wp2_with fail
            refine (new_any _).mono ?_
            rintro e w2 ⟨rfl, hb, hrow⟩
            have HB2 := Lib.hid (HB1.out.trans (hb.mono HB1.out.size))
            have HRO := Lib.hid hrow
            have HP2 := Lib.hid (HPA.out.below HB2.out)
            have hbw := HB1.out.size
            have HPS := Lib.hid (show w.heap.size ≤ w1.heap.size from HB1.out.size)
            have HPLT := Lib.hid (show w1.heap.size < w2.heap.size from hrow.lt)
            have HNE := Lib.hid (show ∀ a, (some (⟨b, o, none⟩ : Addr)) = some a → a.block ≠ w1.heap.size from fun a ha => by cases ha; show b ≠ _; omega)
            clear hb hrow hbw
            have HDL := Lib.hid (show P.length ≤ 1000000 from by rw [HPL.out]; omega)
            cases hd : decL P with
            | none =>
              rw [hd] at HT4
              have hdec := decode_fail w1.heap.size w2 (.inl ⟨_, HRO.out⟩) (some ⟨b, o, none⟩) 0 P hd HP2.out HNE.out HDL.out HP256.out
              rw [HPL.out] at hdec
              have HD := Lib.hid hdec
              clear hdec
              go_wp2_with fail
              refine HD.out.mono ?_
              rintro e w3 ⟨rfl, _, hnear⟩
              have HB3 := Lib.hid (HB2.out.trans ((hnear.below HPLT.out).mono HPS.out))
              clear hnear
              go_wp2_with fail
              refine bodyPost_ret (v := .tuple #[.string ⟨#[]⟩, .int .i64 0, .int .i64 4]) (by simp [results, Try.results90, go_sem]) rfl ⟨by rw [HT4.out]; rfl, HB3.out⟩
            | some l =>
              rw [hd] at HT4
              have hdec := decode_text w1.heap.size w2 (.inl ⟨_, HRO.out⟩) (some ⟨b, o, none⟩) 0 P l hd HP2.out HNE.out HDL.out HP256.out
              rw [HPL.out] at hdec
              have HD := Lib.hid hdec
              clear hdec
              go_wp2_with fail
              refine HD.out.mono ?_
              rintro e w3 ⟨rfl, _, hnear⟩
              have HB3 := Lib.hid (HB2.out.trans ((hnear.below HPLT.out).mono HPS.out))
              clear hnear
              go_wp2_with fail
              refine bodyPost_ret (v := .tuple #[.string ⟨l.toArray⟩, .int .i64 (cap : Int), .int .i64 0]) (by simp [results, Try.results90, go_sem]) rfl ⟨by rw [HT4.out]; rfl, HB3.out⟩
        · have HPA := HBYP
          go_upto_region 9 with fail
          by_cases hc128 : c < 128
          · rw [if_pos hc128] at hand
            have HE := Lib.hid (HT3.out.trans (if_pos hc128))
            have hcv : (convert 23 9 (.slice (some ⟨b, o + at', none⟩) m (cap - at'))).run Try.prog w1 = .ok (.string (bsB P)) w1 := conv_bytes w1 _ m _ P HPL.out (HPA.out.below HB1.out) HP256.out
            go_wp2_with fail
            refine bodyPost_ret (v := .tuple #[.string (bsB P), .int .i64 ((at' : Int) + (m : Int)), .int .i64 0]) (by simp [results, Try.results90, go_sem]) rfl ⟨by rw [HE.out]; rfl, HB1.out⟩
          · rw [if_neg hc128] at hand
            have HT4 := Lib.hid (HT3.out.trans (if_neg hc128))
            go_wp2_with fail
            refine (new_any _).mono ?_
            rintro e w2 ⟨rfl, hb, hrow⟩
            have HB2 := Lib.hid (HB1.out.trans (hb.mono HB1.out.size))
            have HRO := Lib.hid hrow
            have HP2 := Lib.hid (HPA.out.below HB2.out)
            have hbw := HB1.out.size
            have HPS := Lib.hid (show w.heap.size ≤ w1.heap.size from HB1.out.size)
            have HPLT := Lib.hid (show w1.heap.size < w2.heap.size from hrow.lt)
            have HNE := Lib.hid (show ∀ a, (some (⟨b, o + at', none⟩ : Addr)) = some a → a.block ≠ w1.heap.size from fun a ha => by cases ha; show b ≠ _; omega)
            clear hb hrow hbw
            have HDL := Lib.hid (show P.length ≤ 1000000 from by rw [HPL.out]; omega)
            cases hd : decL P with
            | none =>
              rw [hd] at HT4
              have hdec := decode_fail w1.heap.size w2 (.inl ⟨_, HRO.out⟩) (some ⟨b, o + at', none⟩) (cap - at') P hd HP2.out HNE.out HDL.out HP256.out
              rw [HPL.out] at hdec
              have HD := Lib.hid hdec
              clear hdec
              go_wp2_with fail
              refine HD.out.mono ?_
              rintro e w3 ⟨rfl, _, hnear⟩
              have HB3 := Lib.hid (HB2.out.trans ((hnear.below HPLT.out).mono HPS.out))
              clear hnear
              go_wp2_with fail
              refine bodyPost_ret (v := .tuple #[.string ⟨#[]⟩, .int .i64 0, .int .i64 4]) (by simp [results, Try.results90, go_sem]) rfl ⟨by rw [HT4.out]; rfl, HB3.out⟩
            | some l =>
              rw [hd] at HT4
              have hdec := decode_text w1.heap.size w2 (.inl ⟨_, HRO.out⟩) (some ⟨b, o + at', none⟩) (cap - at') P l hd HP2.out HNE.out HDL.out HP256.out
              rw [HPL.out] at hdec
              have HD := Lib.hid hdec
              clear hdec
              go_wp2_with fail
              refine HD.out.mono ?_
              rintro e w3 ⟨rfl, _, hnear⟩
              have HB3 := Lib.hid (HB2.out.trans ((hnear.below HPLT.out).mono HPS.out))
              clear hnear
              go_wp2_with fail
              refine bodyPost_ret (v := .tuple #[.string ⟨l.toArray⟩, .int .i64 ((at' : Int) + (m : Int)), .int .i64 0]) (by simp [results, Try.results90, go_sem]) rfl ⟨by rw [HT4.out]; rfl, HB3.out⟩
  · have q0 : ((er : Int) == 0) = false := by simp; omega
    have HE := Lib.hid (HT.out.trans (if_pos her))
    go_wp2_with fail
    refine bodyPost_ret (v := .tuple #[.string ⟨#[]⟩, .int .i64 0, .int .i64 (er : Int)]) (by simp [results, Try.results90, go_sem]) rfl ⟨by rw [HE.out]; rfl, HB1.out⟩
end Go.Proofs.Yteceinojmdgmeaa

