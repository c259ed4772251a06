/- hdec: Check, New, Size, Same. -/
import Derived.Test.YteceinojmdgmeaaC20
import Derived.Test.YteceinojmdgmeaaC21
namespace Go.Proofs.Yteceinojmdgmeaa
open Go.RowKit
set_option linter.unusedVariables false
set_option linter.unusedSimpArgs false

/-- Whether a state may be: the error's number. -/
def hchk (mx cp : Int) (L : List Fld) : Int := if chkN mx L ≠ 0 then chkN mx L else if 4096 < cp ∨ cp < mx then 8 else 0
theorem rt_i {a b : Int} (h : a = b) : Ending.returned (.int .i64 a) = .returned (.int .i64 b) := by rw [h]
theorem rt_b {a b : Bool} (h : a = b) : Ending.returned (.bool a) = .returned (.bool b) := by rw [h]
def HRow (W : World) (q : Nat) (mx : Int) (v : Value) (cp : Int) : Prop := W.heap[q]? = some (.cells #[.int .i64 mx, v, .int .i64 cp] 45 (0, 0))
theorem HRow.c0 {W : World} {q : Nat} {m c : Int} {v : Value} (h : HRow W q m v c) : W.cell? ⟨q, 0, none⟩ = some (.int .i64 m) := cell_of_row _ _ _ _ _ _ h
theorem HRow.c1 {W : World} {q : Nat} {m c : Int} {v : Value} (h : HRow W q m v c) : W.cell? ⟨q, 1, none⟩ = some v := cell_of_row _ _ _ _ _ _ h
theorem HRow.c2 {W : World} {q : Nat} {m c : Int} {v : Value} (h : HRow W q m v c) : W.cell? ⟨q, 2, none⟩ = some (.int .i64 c) := cell_of_row _ _ _ _ _ _ h
theorem HRow.lt {W : World} {q : Nat} {m c : Int} {v : Value} (h : HRow W q m v c) : q < W.heap.size := World.block_lt_of_cell? W ⟨q, 0, none⟩ h.c0
theorem HRow.step {W W' : World} {q : Nat} {m c : Int} {v : Value} (h : HRow W q m v c) (hb : Below W.heap.size W W') : HRow W' q m v c := (hb.block q h.lt).trans h
theorem HRow.new (W : World) (m c : Int) (v : Value) : HRow (W.alloc (.cells #[.int .i64 m, v, .int .i64 c] 45)) W.heap.size m v c := heap_alloc_new W _
set_option maxRecDepth 100000 in
set_option maxHeartbeats 2000000 in
theorem hcheck_any (mx cp : Int) (oa : Option Addr) (n cap : Nat) (L : List Fld) (hn : L.length = n) (hl : ∀ f ∈ L, lightF f = true) (hn30 : n ≤ 1000) (w : World) (hf : FieldsN w oa L) :
    Calls Try.prog 21 #[.agg #[.int .i64 mx, .slice oa n cap, .int .i64 cp]] w fun e w' => e = .returned (.int .i64 (hchk mx cp L)) ∧ Below w.heap.size w w' := by
  have HB := Lib.hid ((Below.refl w.heap.size w).alloc (Nat.le_refl _) (.cells #[.int .i64 mx, .slice oa n cap, .int .i64 cp] 45))
  have HR := Lib.hid (HRow.new w mx cp (.slice oa n cap))
  have HC := Lib.hid (fun W (hW : Below w.heap.size w W) => check_any mx oa n cap L hn hl hn30 W (hf.below hW))
  have HV : Hid (hchk mx cp L = if chkN mx L ≠ 0 then chkN mx L else if 4096 < cp ∨ cp < mx then 8 else 0) := Lib.hid rfl
  generalize chkN mx L = k at HC HV
  clear hf hl hn
  go_enter Try.func21, Try.ntmps21
  go_upto_region 1 with fail
  generalize w.alloc (.cells #[.int .i64 mx, .slice oa n cap, .int .i64 cp] 45) = w1 at HB HR ⊢
  have c0 := HR.out.c0
  have c1 := HR.out.c1
  have c2 := HR.out.c2
  go_upto_region 2 with (first | (go_at_call 45; refine (HC.out _ HB.out).mono ?_; rintro e w2 ⟨rfl, hb⟩; have HB2 := Lib.hid (bs_hd HB.out hb); have HR2 := Lib.hid (HR.out.step hb); clear hb))
  clear c0 c1 c2
  have c0 := HR2.out.c0
  have c2 := HR2.out.c2
  by_cases hk : k = 0
  · subst hk
    obtain ⟨b1, q1⟩ : ∃ b, decide ((4096 : Int) < cp) = b := ⟨_, rfl⟩
    obtain ⟨b2, q2⟩ : ∃ b, decide (cp < mx) = b := ⟨_, rfl⟩
    have HV2 : Hid (hchk mx cp L = if (b1 || b2) = true then 8 else 0) := Lib.hid (by rw [HV.out, if_neg (by simp), ← q1, ← q2]; simp)
    cases b1 <;> cases b2
    all_goals
      go_wp2_with fail
      go_ret
      exact ⟨rt_i (by rw [HV2.out]; rfl), HB2.out⟩
  · have q1 : (k == 0) = false := beq_eq_false_iff_ne.2 hk
    have q2 : (k != 0) = true := by rw [bne, q1]; rfl
    have HV2 := Lib.hid (HV.out.trans (if_pos hk))
    go_wp2_with fail
    go_ret
    exact ⟨rt_i HV2.out.symm, HB2.out⟩
set_option maxRecDepth 100000 in
set_option maxHeartbeats 1000000 in
theorem hsize_any (oa : Option Addr) (n cap : Nat) (L : List Fld) (hn : L.length = n) (hl : ∀ f ∈ L, lightF f = true) (hn30 : n ≤ 1000) (w : World) (hf : FieldsN w oa L) :
    Calls Try.prog 24 #[.slice oa n cap] w fun e w' => e = .returned (.int .i64 (sumF L : Nat)) ∧ Below w.heap.size w w' := by
  have HN := Lib.hid hn
  have HF := Lib.hid hf
  have HL := Lib.hid hl
  clear hn hf hl
  go_enter Try.func24, Try.ntmps24
  go_wp2_with fail
  go_loopw [3, 8] (fun s i wr => ∃ k : Nat, k ≤ n ∧ i = .int .i64 k ∧ s = .int .i64 (sumF (L.take k) : Nat) ∧ Below w.heap.size w wr) (fun _ i _ => n - (intOf i).toNat)
  case atStart => exact ⟨0, Nat.zero_le _, rfl, rfl, Below.refl _ _⟩
  case round =>
    obtain ⟨k, hk, rfl, rfl, bk⟩ := hrel
    have BK := Lib.hid bk
    clear bk
    by_cases hlt : k < n
    · have hki : (k : Int) < (n : Int) := by omega
      have hkL : k < L.length := by rw [HN.out]; exact hlt
      have hsl := sumF_le L k HL.out
      have HT := Lib.hid (sumF_take L k hkL)
      have hlf := HL.out L[k] (List.getElem_mem hkL)
      obtain ⟨b, o, rfl, h1, h2, h3⟩ := (HF.out.below BK.out) k L[k] (List.getElem?_eq_getElem hkL)
      generalize L[k] = f at h1 h2 h3 HT hlf
      obtain ⟨nm, vl, nv⟩ := f
      simp only [Fld.sz, lightF, Bool.and_eq_true, decide_eq_true_eq] at h1 h2 h3 HT hlf
      generalize sumF (L.take k) = S at hsl HT ⊢
      go_wp2_with fail
      refine (field_size nm vl nv (by omega) (by omega) _).mono ?_
      rintro e w5 ⟨rfl, hb⟩
      have B5 := Lib.hid ((BK.out.alloc BK.out.size _).trans (hb.mono (by have := BK.out.size; simp; omega)))
      clear hb
      have hw : IntKind.i64.wrap ((S : Int) + ((nm.size : Int) + (vl.size : Int) + 32)) = ((S + (nm.size + vl.size + 32) : Nat) : Int) := by
        rw [show (S : Int) + ((nm.size : Int) + (vl.size : Int) + 32) = ((S + (nm.size + vl.size + 32) : Nat) : Int) from by simp]
        exact IntWalk.i64_in _ (by omega)
      go_wp2_with fail
      go_roundw
      case rel => exact ⟨k + 1, by omega, by go_num, by rw [HT.out]; simp, B5.out⟩
      case measure => simp [intOf]; omega
    · obtain rfl : k = n := by omega
      rw [List.take_of_length_le (by rw [HN.out]; exact Nat.le_refl _)]
      go_wp2_with fail
      go_ret
      exact ⟨rfl, BK.out⟩
set_option maxRecDepth 100000 in
set_option maxHeartbeats 2000000 in
theorem hsame_any (m m2 c c2 : Int) (oa ob : Option Addr) (n nb cap cap' : Nat) (L R : List Fld) (hn : L.length = n) (hnb : R.length = nb) (h100 : n ≤ 1000) (hb100 : nb ≤ 1000) (w : World) (hf : FieldsN w oa L) (hg : FieldsN w ob R) :
    Calls Try.prog 23 #[.agg #[.int .i64 m, .slice oa n cap, .int .i64 c], .agg #[.int .i64 m2, .slice ob nb cap', .int .i64 c2]] w fun e w' => e = .returned (.bool (decide (c = c2) && (decide (m = m2) && sameL L R))) ∧ Below w.heap.size w w' := by
  have HC := Lib.hid (fun W (hW : Below w.heap.size w W) => same_any m m2 oa ob n nb cap cap' L R hn hnb h100 hb100 W (hf.below hW) (hg.below hW))
  generalize (decide (m = m2) && sameL L R) = r at HC ⊢
  have B1 := (Below.refl w.heap.size w).alloc (Nat.le_refl _) (.cells #[.int .i64 m, .slice oa n cap, .int .i64 c] 45)
  have HB := Lib.hid (B1.alloc B1.size (.cells #[.int .i64 m2, .slice ob nb cap', .int .i64 c2] 45))
  have HR := Lib.hid ((HRow.new w m c (.slice oa n cap)).step ((Below.refl _ _).alloc (Nat.le_refl _) (.cells #[.int .i64 m2, .slice ob nb cap', .int .i64 c2] 45)))
  have HS : Hid (HRow ((w.alloc (.cells #[.int .i64 m, .slice oa n cap, .int .i64 c] 45)).alloc (.cells #[.int .i64 m2, .slice ob nb cap', .int .i64 c2] 45)) (w.heap.size + 1) m2 (.slice ob nb cap') c2) := Lib.hid (by
    have := HRow.new (w.alloc (.cells #[.int .i64 m, .slice oa n cap, .int .i64 c] 45)) m2 c2 (.slice ob nb cap')
    simpa using this)
  have e1 : (c == c2) = decide (c = c2) := by rw [Bool.eq_iff_iff]; simp
  generalize decide (c = c2) = b at e1 ⊢
  clear B1 hf hg hn hnb
  go_enter Try.func23, Try.ntmps23
  go_upto_region 1 with fail
  generalize ((w.alloc (.cells #[.int .i64 m, .slice oa n cap, .int .i64 c] 45)).alloc (.cells #[.int .i64 m2, .slice ob nb cap', .int .i64 c2] 45)) = w1 at HB HR HS ⊢
  have x0 := HR.out.c0
  have x1 := HR.out.c1
  have x2 := HR.out.c2
  have y0 := HS.out.c0
  have y1 := HS.out.c1
  have y2 := HS.out.c2
  cases b
  · go_wp2_with fail
    go_ret
    exact ⟨rfl, HB.out⟩
  · go_wp2_with (first | (go_at_call 37; refine (HC.out _ HB.out).mono ?_; rintro e w2 ⟨rfl, hb⟩; replace HB := Lib.hid (bs_hd HB.out hb); clear hb))
    go_ret
    exact ⟨rt_b (by simp), HB.out⟩
end Go.Proofs.Yteceinojmdgmeaa

