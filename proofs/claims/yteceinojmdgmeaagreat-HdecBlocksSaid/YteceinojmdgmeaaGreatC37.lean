/- The document's items: footmanref05.literal, head, Check. -/
import Derived.Test.YteceinojmdgmeaaGreatC36
import Derived.Test.YteceinojmdgmeaaGreatC24
namespace Go.Proofs.YteceinojmdgmeaaGreat
open Go.RowKit
set_option linter.unusedVariables false
set_option linter.unusedSimpArgs false

/-- The document's item in a block. -/
def JRow (W : World) (q : Nat) (k : Nat) (i : Int) (nm vl : ByteArray) : Prop := W.heap[q]? = some (.cells #[.int .u8 (k : Int), .int .i64 i, .string nm, .string vl] 63 (0, 0))
theorem JRow.c0 {W : World} {q k : Nat} {i : Int} {nm vl : ByteArray} (h : JRow W q k i nm vl) : W.cell? ⟨q, 0, none⟩ = some (.int .u8 (k : Int)) := cell_of_row _ _ _ _ _ _ h
theorem JRow.c1 {W : World} {q k : Nat} {i : Int} {nm vl : ByteArray} (h : JRow W q k i nm vl) : W.cell? ⟨q, 1, none⟩ = some (.int .i64 i) := cell_of_row _ _ _ _ _ _ h
theorem JRow.c2 {W : World} {q k : Nat} {i : Int} {nm vl : ByteArray} (h : JRow W q k i nm vl) : W.cell? ⟨q, 2, none⟩ = some (.string nm) := cell_of_row _ _ _ _ _ _ h
theorem JRow.c3 {W : World} {q k : Nat} {i : Int} {nm vl : ByteArray} (h : JRow W q k i nm vl) : W.cell? ⟨q, 3, none⟩ = some (.string vl) := cell_of_row _ _ _ _ _ _ h
theorem JRow.z {W : World} {q k : Nat} {i : Int} {nm vl : ByteArray} (h : JRow W q k i nm vl) (j : Nat) : W.frozen? ⟨q, j, none⟩ = false := frozen_of_row _ _ _ _ _ h
theorem JRow.lt {W : World} {q k : Nat} {i : Int} {nm vl : ByteArray} (h : JRow W q k i nm vl) : q < W.heap.size := World.block_lt_of_cell? W ⟨q, 0, none⟩ h.c0
theorem JRow.step {W W' : World} {q k : Nat} {i : Int} {nm vl : ByteArray} (h : JRow W q k i nm vl) (hb : Below W.heap.size W W') : JRow W' q k i nm vl := (hb.block q h.lt).trans h
theorem dlit_any (k : Nat) (hk : k < 256) (w : World) : Calls Tryz.prog 60 #[.int .u8 (k : Int)] w fun e w' => e = .returned (.bool (litK k)) ∧ w' = w := by
  by_cases h1 : 1 ≤ k
  · have q1 : decide ((1 : Int) ≤ (k : Int)) = true := decide_eq_true (by omega)
    by_cases h3 : k ≤ 3
    · have q2 : decide ((k : Int) ≤ 3) = true := decide_eq_true (by omega)
      have HL := Lib.hid (show litK k = true from by unfold litK; rw [decide_eq_true h1, decide_eq_true h3]; rfl)
      go_enter Tryz.func60, Tryz.ntmps60
      go_wp2_with fail
      go_ret
      exact ⟨by rw [HL.out]; rfl, rfl⟩
    · have q2 : decide ((k : Int) ≤ 3) = false := decide_eq_false (by omega)
      have HL := Lib.hid (show litK k = false from by unfold litK; rw [decide_eq_false h3, Bool.and_false])
      go_enter Tryz.func60, Tryz.ntmps60
      go_wp2_with fail
      go_ret
      exact ⟨by rw [HL.out]; rfl, rfl⟩
  · have q1 : decide ((1 : Int) ≤ (k : Int)) = false := decide_eq_false (by omega)
    have HL := Lib.hid (show litK k = false from by unfold litK; rw [decide_eq_false h1, Bool.false_and])
    go_enter Tryz.func60, Tryz.ntmps60
    go_wp2_with fail
    go_ret
    exact ⟨by rw [HL.out]; rfl, rfl⟩
theorem dhead_any (k : Nat) (hk : k ≤ 4) (w : World) : Calls Tryz.prog 58 #[.int .u8 (k : Int)] w fun e w' => e = .returned (.tuple #[.int .u8 ((formF k : Nat) : Int), .int .i64 ((formB k : Nat) : Int)]) ∧ w' = w := by
  rcases (show k = 0 ∨ k = 1 ∨ k = 2 ∨ k = 3 ∨ k = 4 from by omega) with rfl | rfl | rfl | rfl | rfl
  · go_enter Tryz.func58, Tryz.ntmps58
    go_wp2_with fail
    exact bodyPost_ret (v := .tuple #[.int .u8 128, .int .i64 7]) (by simp [results, Tryz.results58, go_sem]) rfl ⟨rfl, rfl⟩
  · go_enter Tryz.func58, Tryz.ntmps58
    go_wp2_with fail
    exact bodyPost_ret (v := .tuple #[.int .u8 64, .int .i64 6]) (by simp [results, Tryz.results58, go_sem]) rfl ⟨rfl, rfl⟩
  · go_enter Tryz.func58, Tryz.ntmps58
    go_wp2_with fail
    exact bodyPost_ret (v := .tuple #[.int .u8 0, .int .i64 4]) (by simp [results, Tryz.results58, go_sem]) rfl ⟨rfl, rfl⟩
  · go_enter Tryz.func58, Tryz.ntmps58
    go_wp2_with fail
    exact bodyPost_ret (v := .tuple #[.int .u8 16, .int .i64 4]) (by simp [results, Tryz.results58, go_sem]) rfl ⟨rfl, rfl⟩
  · go_enter Tryz.func58, Tryz.ntmps58
    go_wp2_with fail
    exact bodyPost_ret (v := .tuple #[.int .u8 32, .int .i64 5]) (by simp [results, Tryz.results58, go_sem]) rfl ⟨rfl, rfl⟩
set_option maxRecDepth 100000 in
set_option maxHeartbeats 1000000 in
theorem dcheck_any (k : Nat) (i : Int) (nm vl : ByteArray) (hk : k < 256) (w : World) : Calls Tryz.prog 36 #[.agg #[.int .u8 (k : Int), .int .i64 i, .string nm, .string vl]] w fun e w' => e = .returned (.int .i64 ((chkI ⟨k, i, nm, vl⟩ : Nat) : Int)) ∧ Below w.heap.size w w' := by
  have HT := Lib.hid (fun W => dlit_any k hk W)
  have HB := Lib.hid ((Below.refl w.heap.size w).alloc (Nat.le_refl _) (.cells #[.int .u8 (k : Int), .int .i64 i, .string nm, .string vl] 63))
  have HR := Lib.hid (show JRow _ _ k i nm vl from heap_alloc_new w (.cells #[.int .u8 (k : Int), .int .i64 i, .string nm, .string vl] 63))
  by_cases h4 : 4 < k
  · have HC := Lib.hid (show chkI ⟨k, i, nm, vl⟩ = 11 from if_pos h4)
    have q4 : decide ((4 : Int) < (k : Int)) = true := decide_eq_true (by omega)
    go_enter Tryz.func36, Tryz.ntmps36
    go_wp2_with fail
    go_ret
    exact ⟨by rw [HC.out]; rfl, HB.out⟩
  have q4 : decide ((4 : Int) < (k : Int)) = false := decide_eq_false (by omega)
  by_cases hr : i < 0 ∨ 268435455 < i ∨ (k = 0 ∧ i = 0)
  · have HC := Lib.hid (show chkI ⟨k, i, nm, vl⟩ = 8 from (if_neg h4).trans (if_pos hr))
    clear h4
    rcases hr with h | h | ⟨rfl, rfl⟩
    · have q5 : decide (i < 0) = true := decide_eq_true h
      go_enter Tryz.func36, Tryz.ntmps36
      go_wp2_with fail
      go_ret
      exact ⟨by rw [HC.out]; rfl, HB.out⟩
    · have q5 : decide (i < 0) = false := decide_eq_false (by omega)
      have q6 : decide ((268435455 : Int) < i) = true := decide_eq_true h
      go_enter Tryz.func36, Tryz.ntmps36
      go_wp2_with fail
      go_ret
      exact ⟨by rw [HC.out]; rfl, HB.out⟩
    · go_enter Tryz.func36, Tryz.ntmps36
      go_wp2_with fail
      go_ret
      exact ⟨by rw [HC.out]; rfl, HB.out⟩
  have HC := Lib.hid (show chkI ⟨k, i, nm, vl⟩ = if extraI ⟨k, i, nm, vl⟩ then 4 else if 4096 < nm.size ∨ 4096 < vl.size then 5 else 0 from (if_neg h4).trans (if_neg hr))
  have HX := Lib.hid (show extraI ⟨k, i, nm, vl⟩ = if litK k then decide (0 < i) && !nm.toList.isEmpty else !nm.toList.isEmpty || !vl.toList.isEmpty from rfl)
  have q5 : decide (i < 0) = false := decide_eq_false (by omega)
  have q6 : decide ((268435455 : Int) < i) = false := decide_eq_false (by omega)
  have hki : ((k : Int) == 0) = true ∧ (i == 0) = false ∨ ((k : Int) == 0) = false := by
    by_cases hk0 : k = 0
    · exact .inl ⟨by simp [hk0], by simp; omega⟩
    · exact .inr (by simp; omega)
  clear h4 hr
  have HE5 := Lib.hid (show ∀ a b : Prop, ∀ [Decidable a] [Decidable b], True from fun _ _ _ _ => trivial)
  have hnv : (nm.toList.isEmpty = true ∨ nm.toList.isEmpty = false) ∧ (vl.toList.isEmpty = true ∨ vl.toList.isEmpty = false) ∧ (litK k = true ∨ litK k = false) := by
    refine ⟨?_, ?_, ?_⟩
    · cases nm.toList.isEmpty <;> simp
    · cases vl.toList.isEmpty <;> simp
    · cases litK k <;> simp
  have hi2 : decide (0 < i) = true ∨ decide (0 < i) = false := by cases decide (0 < i) <;> simp
  have hs : (decide ((4096 : Int) < (nm.size : Int)) = true ∧ 4096 < nm.size ∨ decide ((4096 : Int) < (nm.size : Int)) = false ∧ ¬ 4096 < nm.size) ∧ (decide ((4096 : Int) < (vl.size : Int)) = true ∧ 4096 < vl.size ∨ decide ((4096 : Int) < (vl.size : Int)) = false ∧ ¬ 4096 < vl.size) := by
    refine ⟨?_, ?_⟩
    · by_cases h : 4096 < nm.size
      · exact .inl ⟨decide_eq_true (by omega), h⟩
      · exact .inr ⟨decide_eq_false (by omega), h⟩
    · by_cases h : 4096 < vl.size
      · exact .inl ⟨decide_eq_true (by omega), h⟩
      · exact .inr ⟨decide_eq_false (by omega), h⟩
  obtain ⟨hn, hv, hl⟩ := hnv
  obtain ⟨hs1, hs2⟩ := hs
  have HS1 := Lib.hid hs1
  have HS2 := Lib.hid hs2
  clear HE5 hs1 hs2
  rcases hki with ⟨q7, q8⟩ | q7 <;> rcases hl with hl | hl
  all_goals
    go_enter Tryz.func36, Tryz.ntmps36
    go_wp2_with fail
    refine (HT.out _).mono ?_
    rintro e w2 ⟨rfl, hw⟩
    subst hw
    rw [hl]
  · go_wp2_with fail
    refine (HT.out _).mono ?_
    rintro e w2 ⟨rfl, hw⟩
    subst hw
    rw [hl]
    rcases hi2 with hi2 | hi2
    · rcases hn with hn | hn
      · have HC2 := Lib.hid (show chkI ⟨k, i, nm, vl⟩ = if 4096 < nm.size ∨ 4096 < vl.size then 5 else 0 from HC.out.trans (by rw [if_neg (by rw [HX.out]; simp [hl, hn, hi2])]))
        clear HC HX
        rcases HS1.out with ⟨s1, s2⟩ | ⟨s1, s2⟩
        · have HC4 := Lib.hid (HC2.out.trans (if_pos (.inl s2)))
          go_wp2_with fail
          go_ret
          exact ⟨by rw [HC4.out]; rfl, HB.out⟩
        · rcases HS2.out with ⟨s3, s4⟩ | ⟨s3, s4⟩
          · have HC4 := Lib.hid (HC2.out.trans (if_pos (.inr s4)))
            go_wp2_with fail
            go_ret
            exact ⟨by rw [HC4.out]; rfl, HB.out⟩
          · have HC4 := Lib.hid (HC2.out.trans (if_neg (fun h => h.elim s2 s4)))
            go_wp2_with fail
            go_ret
            exact ⟨by rw [HC4.out]; rfl, HB.out⟩
      · have HC4 := Lib.hid (show chkI ⟨k, i, nm, vl⟩ = 4 from HC.out.trans (by rw [if_pos (by rw [HX.out]; simp [hl, hn, hi2])]))
        go_wp2_with fail
        go_ret
        exact ⟨by rw [HC4.out]; rfl, HB.out⟩
    · have HC2 := Lib.hid (show chkI ⟨k, i, nm, vl⟩ = if 4096 < nm.size ∨ 4096 < vl.size then 5 else 0 from HC.out.trans (by rw [if_neg (by rw [HX.out]; simp [hl, hi2])]))
      clear HC HX
      rcases HS1.out with ⟨s1, s2⟩ | ⟨s1, s2⟩
      · have HC4 := Lib.hid (HC2.out.trans (if_pos (.inl s2)))
        go_wp2_with fail
        go_ret
        exact ⟨by rw [HC4.out]; rfl, HB.out⟩
      · rcases HS2.out with ⟨s3, s4⟩ | ⟨s3, s4⟩
        · have HC4 := Lib.hid (HC2.out.trans (if_pos (.inr s4)))
          go_wp2_with fail
          go_ret
          exact ⟨by rw [HC4.out]; rfl, HB.out⟩
        · have HC4 := Lib.hid (HC2.out.trans (if_neg (fun h => h.elim s2 s4)))
          go_wp2_with fail
          go_ret
          exact ⟨by rw [HC4.out]; rfl, HB.out⟩
  · rcases hv with hv | hv
    · go_wp2_with fail
      refine (HT.out _).mono ?_
      rintro e w2 ⟨rfl, hw⟩
      subst hw
      rw [hl]
      rcases hn with hn | hn
      · have HC2 := Lib.hid (show chkI ⟨k, i, nm, vl⟩ = if 4096 < nm.size ∨ 4096 < vl.size then 5 else 0 from HC.out.trans (by rw [if_neg (by rw [HX.out]; simp [hl, hn, hv])]))
        clear HC HX
        rcases HS1.out with ⟨s1, s2⟩ | ⟨s1, s2⟩
        · have HC4 := Lib.hid (HC2.out.trans (if_pos (.inl s2)))
          go_wp2_with fail
          go_ret
          exact ⟨by rw [HC4.out]; rfl, HB.out⟩
        · rcases HS2.out with ⟨s3, s4⟩ | ⟨s3, s4⟩
          · have HC4 := Lib.hid (HC2.out.trans (if_pos (.inr s4)))
            go_wp2_with fail
            go_ret
            exact ⟨by rw [HC4.out]; rfl, HB.out⟩
          · have HC4 := Lib.hid (HC2.out.trans (if_neg (fun h => h.elim s2 s4)))
            go_wp2_with fail
            go_ret
            exact ⟨by rw [HC4.out]; rfl, HB.out⟩
      · have HC4 := Lib.hid (show chkI ⟨k, i, nm, vl⟩ = 4 from HC.out.trans (by rw [if_pos (by rw [HX.out]; simp [hl, hn, hv])]))
        go_wp2_with fail
        go_ret
        exact ⟨by rw [HC4.out]; rfl, HB.out⟩
    · have HC4 := Lib.hid (show chkI ⟨k, i, nm, vl⟩ = 4 from HC.out.trans (by rw [if_pos (by rw [HX.out]; simp [hl, hv])]))
      go_wp2_with fail
      go_ret
      exact ⟨by rw [HC4.out]; rfl, HB.out⟩
  · go_wp2_with fail
    refine (HT.out _).mono ?_
    rintro e w2 ⟨rfl, hw⟩
    subst hw
    rw [hl]
    rcases hi2 with hi2 | hi2
    · rcases hn with hn | hn
      · have HC2 := Lib.hid (show chkI ⟨k, i, nm, vl⟩ = if 4096 < nm.size ∨ 4096 < vl.size then 5 else 0 from HC.out.trans (by rw [if_neg (by rw [HX.out]; simp [hl, hn, hi2])]))
        clear HC HX
        rcases HS1.out with ⟨s1, s2⟩ | ⟨s1, s2⟩
        · have HC4 := Lib.hid (HC2.out.trans (if_pos (.inl s2)))
          go_wp2_with fail
          go_ret
          exact ⟨by rw [HC4.out]; rfl, HB.out⟩
        · rcases HS2.out with ⟨s3, s4⟩ | ⟨s3, s4⟩
          · have HC4 := Lib.hid (HC2.out.trans (if_pos (.inr s4)))
            go_wp2_with fail
            go_ret
            exact ⟨by rw [HC4.out]; rfl, HB.out⟩
          · have HC4 := Lib.hid (HC2.out.trans (if_neg (fun h => h.elim s2 s4)))
            go_wp2_with fail
            go_ret
            exact ⟨by rw [HC4.out]; rfl, HB.out⟩
      · have HC4 := Lib.hid (show chkI ⟨k, i, nm, vl⟩ = 4 from HC.out.trans (by rw [if_pos (by rw [HX.out]; simp [hl, hn, hi2])]))
        go_wp2_with fail
        go_ret
        exact ⟨by rw [HC4.out]; rfl, HB.out⟩
    · have HC2 := Lib.hid (show chkI ⟨k, i, nm, vl⟩ = if 4096 < nm.size ∨ 4096 < vl.size then 5 else 0 from HC.out.trans (by rw [if_neg (by rw [HX.out]; simp [hl, hi2])]))
      clear HC HX
      rcases HS1.out with ⟨s1, s2⟩ | ⟨s1, s2⟩
      · have HC4 := Lib.hid (HC2.out.trans (if_pos (.inl s2)))
        go_wp2_with fail
        go_ret
        exact ⟨by rw [HC4.out]; rfl, HB.out⟩
      · rcases HS2.out with ⟨s3, s4⟩ | ⟨s3, s4⟩
        · have HC4 := Lib.hid (HC2.out.trans (if_pos (.inr s4)))
          go_wp2_with fail
          go_ret
          exact ⟨by rw [HC4.out]; rfl, HB.out⟩
        · have HC4 := Lib.hid (HC2.out.trans (if_neg (fun h => h.elim s2 s4)))
          go_wp2_with fail
          go_ret
          exact ⟨by rw [HC4.out]; rfl, HB.out⟩
  · rcases hv with hv | hv
    · go_wp2_with fail
      refine (HT.out _).mono ?_
      rintro e w2 ⟨rfl, hw⟩
      subst hw
      rw [hl]
      rcases hn with hn | hn
      · have HC2 := Lib.hid (show chkI ⟨k, i, nm, vl⟩ = if 4096 < nm.size ∨ 4096 < vl.size then 5 else 0 from HC.out.trans (by rw [if_neg (by rw [HX.out]; simp [hl, hn, hv])]))
        clear HC HX
        rcases HS1.out with ⟨s1, s2⟩ | ⟨s1, s2⟩
        · have HC4 := Lib.hid (HC2.out.trans (if_pos (.inl s2)))
          go_wp2_with fail
          go_ret
          exact ⟨by rw [HC4.out]; rfl, HB.out⟩
        · rcases HS2.out with ⟨s3, s4⟩ | ⟨s3, s4⟩
          · have HC4 := Lib.hid (HC2.out.trans (if_pos (.inr s4)))
            go_wp2_with fail
            go_ret
            exact ⟨by rw [HC4.out]; rfl, HB.out⟩
          · have HC4 := Lib.hid (HC2.out.trans (if_neg (fun h => h.elim s2 s4)))
            go_wp2_with fail
            go_ret
            exact ⟨by rw [HC4.out]; rfl, HB.out⟩
      · have HC4 := Lib.hid (show chkI ⟨k, i, nm, vl⟩ = 4 from HC.out.trans (by rw [if_pos (by rw [HX.out]; simp [hl, hn, hv])]))
        go_wp2_with fail
        go_ret
        exact ⟨by rw [HC4.out]; rfl, HB.out⟩
    · have HC4 := Lib.hid (show chkI ⟨k, i, nm, vl⟩ = 4 from HC.out.trans (by rw [if_pos (by rw [HX.out]; simp [hl, hv])]))
      go_wp2_with fail
      go_ret
      exact ⟨by rw [HC4.out]; rfl, HB.out⟩
end Go.Proofs.YteceinojmdgmeaaGreat

