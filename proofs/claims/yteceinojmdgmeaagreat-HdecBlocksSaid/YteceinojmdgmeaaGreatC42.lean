/- DocG · DocH: joined by a program, for a claim has at most 60 files. -/
import Derived.Test.YteceinojmdgmeaaGreatC38
import Derived.Test.YteceinojmdgmeaaGreatC23
import Derived.Test.YteceinojmdgmeaaGreatC41
import Derived.Test.YteceinojmdgmeaaGreatC24
/- The document's texts: footmanref05.GetText. -/
namespace Go.Proofs.YteceinojmdgmeaaGreat
open Go.RowKit
set_option linter.unusedVariables false
set_option linter.unusedSimpArgs false

set_option maxRecDepth 100000 in
set_option maxHeartbeats 2000000 in
theorem dgetText_any (oa : Option Addr) (n cap : Nat) (bs : List Nat) (hn : bs.length = n) (hnc : n ≤ cap) (hn60 : n ≤ 100) (w : World) (hby : BytesN w oa bs) (hb256 : ∀ i, i < bs.length → bs.getD i 0 < 256) :
    Calls Tryz.prog 61 #[.slice oa n cap] w (TextGPost bs w) := by
  have HN := Lib.hid hn
  have HBY := Lib.hid hby
  have H256 := Lib.hid hb256
  have HG := Lib.hid (show ∀ W, BytesN W oa bs → Calls Tryz.prog 59 #[.slice oa n cap, .int .i64 7] W fun e w' => e = .returned (.tuple #[.int .i64 ((getN bs 7).1 : Nat), .int .i64 ((getN bs 7).2.1 : Nat), .int .i64 ((getN bs 7).2.2 : Nat)]) ∧ Below W.heap.size W w' from fun W hW => refGet_any oa n cap bs hn (by omega) 7 (by unfold K4; decide) W hW hb256)
  have HOK := Lib.hid (getN_ok bs 7 (by unfold K4; decide))
  have HT := Lib.hid (show textG bs = if (getN bs 7).2.2 ≠ 0 then (ByteArray.empty, 0, (getN bs 7).2.2)
  else if 4096 < (getN bs 7).1 then (ByteArray.empty, 0, 5)
  else if bs.length < (getN bs 7).2.1 + (getN bs 7).1 then (ByteArray.empty, 0, 3)
  else if bs.getD 0 0 < 128 then (bsB ((bs.drop (getN bs 7).2.1).take (getN bs 7).1), (getN bs 7).2.1 + (getN bs 7).1, 0)
  else match decL ((bs.drop (getN bs 7).2.1).take (getN bs 7).1) with
    | none => (ByteArray.empty, 0, 4)
    | some l => (⟨l.toArray⟩, (getN bs 7).2.1 + (getN bs 7).1, 0) from rfl)
  clear hn hby hb256
  generalize getN bs 7 = g at HG HOK HT
  obtain ⟨m, at', er⟩ := g
  simp only at HG HOK HT
  go_enter Tryz.func61, Tryz.ntmps61
  go_wp2_with fail
  refine (HG.out _ HBY.out).mono ?_
  rintro e w1 ⟨rfl, hb⟩
  have HB1 := Lib.hid hb
  clear hb
  by_cases her : er = 0
  · subst her
    obtain ⟨h1, h2, h3⟩ := HOK.out rfl
    rw [HN.out] at h2
    have h2' : at' ≤ n := h2
    have HT1 := Lib.hid (HT.out.trans (if_neg (fun h => h rfl)))
    by_cases hm : 4096 < m
    · have q1 : decide ((4096 : Int) < (m : Int)) = true := decide_eq_true (by omega)
      have HE := Lib.hid (HT1.out.trans (if_pos hm))
      go_wp2_with fail
      refine bodyPost_ret (v := .tuple #[.string ⟨#[]⟩, .int .i64 0, .int .i64 5]) (by simp [results, Tryz.results61, go_sem]) rfl ⟨by rw [HE.out]; rfl, HB1.out⟩
    · have q1 : decide ((4096 : Int) < (m : Int)) = false := decide_eq_false (by omega)
      have HT2 := Lib.hid (HT1.out.trans (if_neg hm))
      have hs1 : IntKind.i64.wrap ((n : Int) - (at' : Int)) = (n : Int) - (at' : Int) := IntWalk.i64_in _ (by omega)
      by_cases hl : n < at' + m
      · have q2 : decide ((n : Int) - (at' : Int) < (m : Int)) = true := decide_eq_true (by omega)
        have HE := Lib.hid (HT2.out.trans (if_pos (by rw [HN.out]; exact hl)))
        go_wp2_with fail
        refine bodyPost_ret (v := .tuple #[.string ⟨#[]⟩, .int .i64 0, .int .i64 3]) (by simp [results, Tryz.results61, go_sem]) rfl ⟨by rw [HE.out]; rfl, HB1.out⟩
      · have q2 : decide ((n : Int) - (at' : Int) < (m : Int)) = false := decide_eq_false (by omega)
        have HT3 := Lib.hid (HT2.out.trans (if_neg (by rw [HN.out]; exact hl)))
        have hs2 : IntKind.i64.wrap ((at' : Int) + (m : Int)) = (at' : Int) + (m : Int) := IntWalk.i64_in _ (by omega)
        obtain ⟨b, o, rfl, hc0⟩ := (HBY.out.below HB1.out).at (i := 0) (by rw [HN.out]; omega)
        have hc0l := H256.out 0 (by rw [HN.out]; omega)
        have HBYP := Lib.hid (HBY.out.part at' m)
        have HPL := Lib.hid (show ((bs.drop at').take m).length = m from by rw [List.length_take, List.length_drop, HN.out]; omega)
        have HP256 := Lib.hid (show ∀ i, i < ((bs.drop at').take m).length → ((bs.drop at').take m).getD i 0 < 256 from fun i hi => by
          rw [List.length_take, List.length_drop] at hi
          have := H256.out (at' + i) (by omega)
          simp only [List.getD_eq_getElem?_getD] at this ⊢
          rw [List.getElem?_take_of_lt (by omega), List.getElem?_drop]
          exact this)
        have hblt : b < w.heap.size := by
          obtain ⟨b', o', e', hc⟩ := HBY.out.at (i := 0) (by rw [HN.out]; omega)
          obtain ⟨rfl, rfl, _⟩ := Addr.mk.inj (Option.some.inj e')
          exact World.block_lt_of_cell? _ _ hc
        generalize bs.getD 0 0 = c at hc0 hc0l HT3
        generalize (bs.drop at').take m = P at HBYP HPL HP256 HT3
        rw [Nat.add_zero] at hc0
        have hx1 : (0 : Int) ≤ (at' : Int) := by omega
        have hx2 : (at' : Int) ≤ (at' : Int) + (m : Int) := by omega
        have hx3 : (at' : Int) + (m : Int) ≤ (cap : Int) := by omega
        have hx4 : (0 : Int) < (n : Int) := by omega
        have hP60 : P.length ≤ 100 := by rw [HPL.out]; omega
        by_cases hca : cap = at'
        · subst hca
          obtain rfl : m = 0 := by omega
          have hs3 : IntKind.i64.wrap (cap : Int) = (cap : Int) := IntWalk.i64_in _ (by omega)
          have HPA := Lib.hid (show BytesN w (some ⟨b, o, none⟩) P from fun i hi => by rw [HPL.out] at hi; omega)
          have hx5 : (0 : Int) ≤ (cap : Int) := by omega
          clear hx2 hx3 hs2
          by_cases hc128 : c < 128
          · have q9 : decide ((c : Int) < 128) = true := decide_eq_true (by omega)
            have HE := Lib.hid (HT3.out.trans (if_pos hc128))
            have hcv : (convert 27 9 (.slice (some ⟨b, o, none⟩) 0 0)).run Tryz.prog w1 = .ok (.string (bsB P)) w1 := conv_bytes w1 _ 0 _ P HPL.out (HPA.out.below HB1.out) HP256.out
            go_wp2_with fail
            refine bodyPost_ret (v := .tuple #[.string (bsB P), .int .i64 (cap : Int), .int .i64 0]) (by simp [results, Tryz.results61, go_sem]) rfl ⟨by rw [HE.out]; rfl, HB1.out⟩
          · have q9 : decide ((c : Int) < 128) = false := decide_eq_false (by omega)
            have HT4 := Lib.hid (HT3.out.trans (if_neg hc128))
            go_wp2_with fail
            cases hd : decL P with
            | none =>
              rw [hd] at HT4
              have hdec := refDecode_any (some ⟨b, o, none⟩) 0 P w1 (HPA.out.below HB1.out) hP60 HP256.out
              rw [HPL.out] at hdec
              refine hdec.mono ?_
              clear hdec
              rintro e w3 ⟨rfl, hb⟩
              have HB3 := Lib.hid (HB1.out.trans (hb.mono HB1.out.size))
              rw [hd, show decV none = .tuple #[.string ByteArray.empty, .int .i64 4] from rfl]
              clear hb
              go_wp2_with fail
              refine bodyPost_ret (v := .tuple #[.string ⟨#[]⟩, .int .i64 0, .int .i64 4]) (by simp [results, Tryz.results61, go_sem]) rfl ⟨by rw [HT4.out]; rfl, HB3.out⟩
            | some l =>
              rw [hd] at HT4
              have hdec := refDecode_any (some ⟨b, o, none⟩) 0 P w1 (HPA.out.below HB1.out) hP60 HP256.out
              rw [HPL.out] at hdec
              refine hdec.mono ?_
              clear hdec
              rintro e w3 ⟨rfl, hb⟩
              have HB3 := Lib.hid (HB1.out.trans (hb.mono HB1.out.size))
              rw [hd, decV_some]
              clear hb
              go_wp2_with fail
              refine bodyPost_ret (v := .tuple #[.string ⟨l.toArray⟩, .int .i64 (cap : Int), .int .i64 0]) (by simp [results, Tryz.results61, go_sem]) rfl ⟨by rw [HT4.out]; rfl, HB3.out⟩
        · have HPA := HBYP
          by_cases hc128 : c < 128
          · have q9 : decide ((c : Int) < 128) = true := decide_eq_true (by omega)
            have HE := Lib.hid (HT3.out.trans (if_pos hc128))
            have hcv : (convert 27 9 (.slice (some ⟨b, o + at', none⟩) m (cap - at'))).run Tryz.prog w1 = .ok (.string (bsB P)) w1 := conv_bytes w1 _ m _ P HPL.out (HPA.out.below HB1.out) HP256.out
            go_wp2_with fail
            refine bodyPost_ret (v := .tuple #[.string (bsB P), .int .i64 ((at' : Int) + (m : Int)), .int .i64 0]) (by simp [results, Tryz.results61, go_sem]) rfl ⟨by rw [HE.out]; rfl, HB1.out⟩
          · have q9 : decide ((c : Int) < 128) = false := decide_eq_false (by omega)
            have HT4 := Lib.hid (HT3.out.trans (if_neg hc128))
            go_wp2_with fail
            cases hd : decL P with
            | none =>
              rw [hd] at HT4
              have hdec := refDecode_any (some ⟨b, o + at', none⟩) (cap - at') P w1 (HPA.out.below HB1.out) hP60 HP256.out
              rw [HPL.out] at hdec
              refine hdec.mono ?_
              clear hdec
              rintro e w3 ⟨rfl, hb⟩
              have HB3 := Lib.hid (HB1.out.trans (hb.mono HB1.out.size))
              rw [hd, show decV none = .tuple #[.string ByteArray.empty, .int .i64 4] from rfl]
              clear hb
              go_wp2_with fail
              refine bodyPost_ret (v := .tuple #[.string ⟨#[]⟩, .int .i64 0, .int .i64 4]) (by simp [results, Tryz.results61, go_sem]) rfl ⟨by rw [HT4.out]; rfl, HB3.out⟩
            | some l =>
              rw [hd] at HT4
              have hdec := refDecode_any (some ⟨b, o + at', none⟩) (cap - at') P w1 (HPA.out.below HB1.out) hP60 HP256.out
              rw [HPL.out] at hdec
              refine hdec.mono ?_
              clear hdec
              rintro e w3 ⟨rfl, hb⟩
              have HB3 := Lib.hid (HB1.out.trans (hb.mono HB1.out.size))
              rw [hd, decV_some]
              clear hb
              go_wp2_with fail
              refine bodyPost_ret (v := .tuple #[.string ⟨l.toArray⟩, .int .i64 ((at' : Int) + (m : Int)), .int .i64 0]) (by simp [results, Tryz.results61, go_sem]) rfl ⟨by rw [HT4.out]; rfl, HB3.out⟩
  · have q0 : ((er : Int) == 0) = false := by simp; omega
    have HE := Lib.hid (HT.out.trans (if_pos her))
    go_wp2_with fail
    refine bodyPost_ret (v := .tuple #[.string ⟨#[]⟩, .int .i64 0, .int .i64 (er : Int)]) (by simp [results, Tryz.results61, go_sem]) rfl ⟨by rw [HE.out]; rfl, HB1.out⟩
end Go.Proofs.YteceinojmdgmeaaGreat


/- The document's items: footmanref05.kind, literal, head. -/
namespace Go.Proofs.YteceinojmdgmeaaGreat
open Go.RowKit
set_option linter.unusedVariables false
set_option linter.unusedSimpArgs false

/-- The document's item in a block (as it is got). -/
def KRow (W : World) (q : Nat) (k : Nat) (i : Int) (nm vl : ByteArray) : Prop := W.heap[q]? = some (.cells #[.int .u8 (k : Int), .int .i64 i, .string nm, .string vl] 63 (0, 0))
theorem KRow.c0 {W : World} {q k : Nat} {i : Int} {nm vl : ByteArray} (h : KRow W q k i nm vl) : W.cell? ⟨q, 0, none⟩ = some (.int .u8 (k : Int)) := cell_of_row _ _ _ _ _ _ h
theorem KRow.c1 {W : World} {q k : Nat} {i : Int} {nm vl : ByteArray} (h : KRow W q k i nm vl) : W.cell? ⟨q, 1, none⟩ = some (.int .i64 i) := cell_of_row _ _ _ _ _ _ h
theorem KRow.c2 {W : World} {q k : Nat} {i : Int} {nm vl : ByteArray} (h : KRow W q k i nm vl) : W.cell? ⟨q, 2, none⟩ = some (.string nm) := cell_of_row _ _ _ _ _ _ h
theorem KRow.c3 {W : World} {q k : Nat} {i : Int} {nm vl : ByteArray} (h : KRow W q k i nm vl) : W.cell? ⟨q, 3, none⟩ = some (.string vl) := cell_of_row _ _ _ _ _ _ h
theorem KRow.z {W : World} {q k : Nat} {i : Int} {nm vl : ByteArray} (h : KRow W q k i nm vl) (j : Nat) : W.frozen? ⟨q, j, none⟩ = false := frozen_of_row _ _ _ _ _ h
theorem KRow.lt {W : World} {q k : Nat} {i : Int} {nm vl : ByteArray} (h : KRow W q k i nm vl) : q < W.heap.size := World.block_lt_of_cell? W ⟨q, 0, none⟩ h.c0
theorem KRow.step {W W' : World} {q k : Nat} {i : Int} {nm vl : ByteArray} (h : KRow W q k i nm vl) (hb : Below W.heap.size W W') : KRow W' q k i nm vl := (hb.block q h.lt).trans h
theorem KRow.set1 {W : World} {q k : Nat} {i : Int} {nm vl : ByteArray} (h : KRow W q k i nm vl) (i' : Int) : KRow (W.setCell ⟨q, 1, none⟩ (.int .i64 i')) q k i' nm vl := heap_setCell_same W q 1 _ _ _ h
theorem KRow.set2 {W : World} {q k : Nat} {i : Int} {nm vl : ByteArray} (h : KRow W q k i nm vl) (s : ByteArray) : KRow (W.setCell ⟨q, 2, none⟩ (.string s)) q k i s vl := heap_setCell_same W q 2 _ _ _ h
theorem KRow.set3 {W : World} {q k : Nat} {i : Int} {nm vl : ByteArray} (h : KRow W q k i nm vl) (s : ByteArray) : KRow (W.setCell ⟨q, 3, none⟩ (.string s)) q k i nm s := heap_setCell_same W q 3 _ _ _ h
theorem KRow.other {W : World} {q k : Nat} {i : Int} {nm vl : ByteArray} (h : KRow W q k i nm vl) (p j : Nat) (hp : p ≠ q) (x : Value) : KRow (W.setCell ⟨p, j, none⟩ x) q k i nm vl := (Below.heap_setCell _ _ _ _ (fun e => hp (by simpa using e.symm))).trans h
theorem KRow.alloc {W : World} {q k : Nat} {i : Int} {nm vl : ByteArray} (h : KRow W q k i nm vl) (o : Obj) : KRow (W.alloc o) q k i nm vl := h.step ((Below.refl _ _).alloc (Nat.le_refl _) o)
theorem KRow.new (W : World) (k : Nat) (i : Int) (nm vl : ByteArray) : KRow (W.alloc (.cells #[.int .u8 (k : Int), .int .i64 i, .string nm, .string vl] 63)) W.heap.size k i nm vl := heap_alloc_new W _
theorem elit_any (k : Nat) (hk : k < 256) (w : World) : Calls Tryz.prog 60 #[.int .u8 (k : Int)] w fun e w' => e = .returned (.bool (litK k)) ∧ w' = w := by
  by_cases h1 : 1 ≤ k
  · have q1 : decide ((1 : Int) ≤ (k : Int)) = true := decide_eq_true (by omega)
    by_cases h3 : k ≤ 3
    · have q2 : decide ((k : Int) ≤ 3) = true := decide_eq_true (by omega)
      have HL := Lib.hid (show litK k = true from by unfold litK; rw [decide_eq_true h1, decide_eq_true h3]; rfl)
      go_enter Tryz.func60, Tryz.ntmps60
      go_wp2_with fail
      go_ret
      exact ⟨by rw [HL.out]; rfl, rfl⟩
    · have q2 : decide ((k : Int) ≤ 3) = false := decide_eq_false (by omega)
      have HL := Lib.hid (show litK k = false from by unfold litK; rw [decide_eq_false h3, Bool.and_false])
      go_enter Tryz.func60, Tryz.ntmps60
      go_wp2_with fail
      go_ret
      exact ⟨by rw [HL.out]; rfl, rfl⟩
  · have q1 : decide ((1 : Int) ≤ (k : Int)) = false := decide_eq_false (by omega)
    have HL := Lib.hid (show litK k = false from by unfold litK; rw [decide_eq_false h1, Bool.false_and])
    go_enter Tryz.func60, Tryz.ntmps60
    go_wp2_with fail
    go_ret
    exact ⟨by rw [HL.out]; rfl, rfl⟩
theorem ehead_any (k : Nat) (hk : k ≤ 4) (w : World) : Calls Tryz.prog 58 #[.int .u8 (k : Int)] w fun e w' => e = .returned (.tuple #[.int .u8 ((formF k : Nat) : Int), .int .i64 ((formB k : Nat) : Int)]) ∧ w' = w := by
  rcases (show k = 0 ∨ k = 1 ∨ k = 2 ∨ k = 3 ∨ k = 4 from by omega) with rfl | rfl | rfl | rfl | rfl
  · go_enter Tryz.func58, Tryz.ntmps58
    go_wp2_with fail
    exact bodyPost_ret (v := .tuple #[.int .u8 128, .int .i64 7]) (by simp [results, Tryz.results58, go_sem]) rfl ⟨rfl, rfl⟩
  · go_enter Tryz.func58, Tryz.ntmps58
    go_wp2_with fail
    exact bodyPost_ret (v := .tuple #[.int .u8 64, .int .i64 6]) (by simp [results, Tryz.results58, go_sem]) rfl ⟨rfl, rfl⟩
  · go_enter Tryz.func58, Tryz.ntmps58
    go_wp2_with fail
    exact bodyPost_ret (v := .tuple #[.int .u8 0, .int .i64 4]) (by simp [results, Tryz.results58, go_sem]) rfl ⟨rfl, rfl⟩
  · go_enter Tryz.func58, Tryz.ntmps58
    go_wp2_with fail
    exact bodyPost_ret (v := .tuple #[.int .u8 16, .int .i64 4]) (by simp [results, Tryz.results58, go_sem]) rfl ⟨rfl, rfl⟩
  · go_enter Tryz.func58, Tryz.ntmps58
    go_wp2_with fail
    exact bodyPost_ret (v := .tuple #[.int .u8 32, .int .i64 5]) (by simp [results, Tryz.results58, go_sem]) rfl ⟨rfl, rfl⟩
theorem dkind_any (c : Nat) (hc : c < 256) (w : World) : Calls Tryz.prog 57 #[.int .u8 (c : Int)] w fun e w' => e = .returned (.int .u8 ((kindN c : Nat) : Int)) ∧ w' = w := by
  have HK := Lib.hid (show kindN c = if 128 ≤ c then 0 else if 64 ≤ c then 1 else if 32 ≤ c then 4 else if 16 ≤ c then 3 else 2 from rfl)
  by_cases h128 : 128 ≤ c
  · have q128 : decide ((128 : Int) ≤ (c : Int)) = true := decide_eq_true (by omega)
    have HE := Lib.hid (show kindN c = 0 from by rw [HK.out, if_pos h128])
    go_enter Tryz.func57, Tryz.ntmps57
    go_wp2_with fail
    go_ret
    exact ⟨by rw [HE.out]; rfl, rfl⟩
  have q128 : decide ((128 : Int) ≤ (c : Int)) = false := decide_eq_false (by omega)
  by_cases h64 : 64 ≤ c
  · have q64 : decide ((64 : Int) ≤ (c : Int)) = true := decide_eq_true (by omega)
    have HE := Lib.hid (show kindN c = 1 from by rw [HK.out, if_neg h128, if_pos h64])
    go_enter Tryz.func57, Tryz.ntmps57
    go_wp2_with fail
    go_ret
    exact ⟨by rw [HE.out]; rfl, rfl⟩
  have q64 : decide ((64 : Int) ≤ (c : Int)) = false := decide_eq_false (by omega)
  by_cases h32 : 32 ≤ c
  · have q32 : decide ((32 : Int) ≤ (c : Int)) = true := decide_eq_true (by omega)
    have HE := Lib.hid (show kindN c = 4 from by rw [HK.out, if_neg h128, if_neg h64, if_pos h32])
    go_enter Tryz.func57, Tryz.ntmps57
    go_wp2_with fail
    go_ret
    exact ⟨by rw [HE.out]; rfl, rfl⟩
  have q32 : decide ((32 : Int) ≤ (c : Int)) = false := decide_eq_false (by omega)
  by_cases h16 : 16 ≤ c
  · have q16 : decide ((16 : Int) ≤ (c : Int)) = true := decide_eq_true (by omega)
    have HE := Lib.hid (show kindN c = 3 from by rw [HK.out, if_neg h128, if_neg h64, if_neg h32, if_pos h16])
    go_enter Tryz.func57, Tryz.ntmps57
    go_wp2_with fail
    go_ret
    exact ⟨by rw [HE.out]; rfl, rfl⟩
  have q16 : decide ((16 : Int) ≤ (c : Int)) = false := decide_eq_false (by omega)
  have HE := Lib.hid (show kindN c = 2 from by rw [HK.out, if_neg h128, if_neg h64, if_neg h32, if_neg h16])
  go_enter Tryz.func57, Tryz.ntmps57
  go_wp2_with fail
  go_ret
  exact ⟨by rw [HE.out]; rfl, rfl⟩
end Go.Proofs.YteceinojmdgmeaaGreat

