/- Whether a table may be: dyntab.Check. -/
import Derived.Test.YtmnaljnkgaebkaaFldC
namespace Go.Proofs.Ytmnaljnkgaebkaa
open Go.RowKit
set_option linter.unusedVariables false
set_option linter.unusedSimpArgs false

theorem in_yes (m : Int) (h : 0 ≤ m ∧ m ≤ 4096) (w : World) : Calls Try.prog 67 #[.int .i64 m] w fun e w' => e = .returned (.bool true) ∧ w' = w := by
  have h1 : decide (0 ≤ m) = true := by simpa using h.1
  have h2 : decide (m ≤ 4096) = true := by simpa using h.2
  clear h
  go_enter Try.func67, Try.ntmps67
  go_wp2_with fail
  go_ret
  exact ⟨rfl, rfl⟩
theorem in_no (m : Int) (h : m < 0 ∨ 4096 < m) (w : World) : Calls Try.prog 67 #[.int .i64 m] w fun e w' => e = .returned (.bool false) ∧ w' = w := by
  rcases h with h | h
  · have h1 : decide (0 ≤ m) = false := by simp; omega
    clear h
    go_enter Try.func67, Try.ntmps67
    go_wp2_with fail
    go_ret
    exact ⟨rfl, rfl⟩
  · have h1 : decide (0 ≤ m) = true := by simp; omega
    have h2 : decide (m ≤ 4096) = false := by simp; omega
    clear h
    go_enter Try.func67, Try.ntmps67
    go_wp2_with fail
    go_ret
    exact ⟨rfl, rfl⟩
theorem never_any (a b : ByteArray) (c : Bool) (w : World) : Calls Try.prog 69 #[.agg #[.string a, .string b, .bool c]] w fun e w' => e = .returned (.bool c) ∧ Below w.heap.size w w' := by
  go_enter Try.func69, Try.ntmps69
  go_wp2_with fail
  go_ret
  exact ⟨rfl, (Below.refl _ _).alloc (Nat.le_refl _) _⟩
def IdxPost (L : List Fld) (w : World) (e : Ending) (w' : World) : Prop := ∃ z : Int, e = .returned (.int .i64 z) ∧ decide (0 ≤ z) = L.any (·.never) ∧ Below w.heap.size w w'
set_option maxRecDepth 100000 in
set_option maxHeartbeats 1000000 in
theorem indexNever_any (oa : Option Addr) (n cap : Nat) (L : List Fld) (hn : L.length = n) (hn100 : n ≤ 1000) (w : World) (hf : FieldsN w oa L) :
    Calls Try.prog 92 #[.slice oa n cap, .func (.func 69) #[] #[]] w (IdxPost L w) := by
  have HN := Lib.hid hn
  have HF := Lib.hid hf
  clear hn hf
  go_enter Try.func92, Try.ntmps92
  go_wp2_with fail
  go_loopw [8] (fun i wr => ∃ k : Nat, k ≤ n ∧ i = .int .i64 k ∧ (L.take k).any (·.never) = false ∧ Below w.heap.size w wr) (fun i _ => n - (intOf i).toNat)
  case atStart => exact ⟨0, Nat.zero_le _, rfl, by simp, Below.refl _ _⟩
  case round =>
    obtain ⟨k, hk, rfl, hany, bk⟩ := hrel
    have HA := Lib.hid hany
    have BK := Lib.hid bk
    clear hany bk
    by_cases hlt : k < n
    · have hki : (k : Int) < (n : Int) := by omega
      have hkL : k < L.length := by rw [HN.out]; exact hlt
      obtain ⟨b, o, rfl, g1, g2, g3⟩ := (HF.out.below BK.out) k L[k] (List.getElem?_eq_getElem hkL)
      have HTK := Lib.hid (show (L.take (k + 1)).any (·.never) = L[k].never from by
        rw [List.take_succ_eq_append_getElem hkL, List.any_append, HA.out]; simp)
      have HIN := Lib.hid (show L[k].never = true → L.any (·.never) = true from fun h => List.any_eq_true.2 ⟨L[k], List.getElem_mem hkL, h⟩)
      generalize L[k] = f at g1 g2 g3 HTK HIN
      obtain ⟨nm, vl, nv⟩ := f
      simp only at g1 g2 g3
      go_wp2_with fail
      refine (never_any nm vl nv _).mono ?_
      rintro e w5 ⟨rfl, hb⟩
      have B5 := Lib.hid (BK.out.trans (hb.mono BK.out.size))
      clear hb
      cases nv
      · go_wp2_with fail
        go_roundw
        case rel => exact ⟨k + 1, by omega, by go_num, HTK.out, B5.out⟩
        case measure => simp [intOf]; omega
      · have HX := Lib.hid (HIN.out rfl)
        go_wp2_with fail
        refine bodyPost_ret (v := .int .i64 (k : Int)) (by simp [results, Try.results92, go_sem]) rfl ⟨_, rfl, by rw [HX.out]; simp, B5.out⟩
    · obtain rfl : k = n := by omega
      have HX := Lib.hid (show L.any (·.never) = false from by have := HA.out; rwa [List.take_of_length_le (by rw [HN.out]; exact Nat.le_refl _)] at this)
      go_wp2_with fail
      refine bodyPost_ret (v := .int .i64 (-1)) (by simp [results, Try.results92, go_sem]) rfl ⟨_, rfl, by rw [HX.out]; rfl, BK.out⟩
theorem containsNever_any (oa : Option Addr) (n cap : Nat) (L : List Fld) (hn : L.length = n) (hn100 : n ≤ 1000) (w : World) (hf : FieldsN w oa L) :
    Calls Try.prog 68 #[.slice oa n cap, .func (.func 69) #[] #[]] w fun e w' => e = .returned (.bool (L.any (·.never))) ∧ Below w.heap.size w w' := by
  have HI := Lib.hid (indexNever_any oa n cap L hn hn100 w hf)
  clear hn hf
  go_enter Try.func68, Try.ntmps68
  go_wp2_with fail
  refine HI.out.mono ?_
  rintro e w1 ⟨z, rfl, hz, hb⟩
  have HB := Lib.hid hb
  clear hb
  generalize hx : L.any (·.never) = x at hz
  have HX := Lib.hid hx
  clear hx
  go_wp2_with fail
  go_ret
  exact ⟨by rw [HX.out]; rfl, HB.out⟩
set_option maxRecDepth 100000 in
set_option maxHeartbeats 1000000 in
theorem check_any (m : Int) (oa : Option Addr) (n cap : Nat) (L : List Fld) (hn : L.length = n) (hl : ∀ f ∈ L, lightF f = true) (hn30 : n ≤ 100) (w : World) (hf : FieldsN w oa L) :
    Calls Try.prog 33 #[.agg #[.int .i64 m, .slice oa n cap]] w fun e w' => e = .returned (.int .i64 (chkN m L)) ∧ Below w.heap.size w w' := by
  have HSZ := Lib.hid (fun W hW => size_tab m oa n cap L hn hl hn30 W hW)
  have HCN := Lib.hid (fun W hW => containsNever_any oa n cap L hn (by omega) W hW)
  have HF := Lib.hid hf
  have hT : (w.alloc (.cells #[.int .i64 m, .slice oa n cap] 48)).heap[w.heap.size]? = some (.cells #[.int .i64 m, .slice oa n cap] 48 (0, 0)) := heap_alloc_new w _
  have HT := Lib.hid (show TabAt 48 w.heap.size w.heap.size m oa n cap L w (w.alloc (.cells #[.int .i64 m, .slice oa n cap] 48)) from
    ⟨hT, HF.out.below ((Below.refl _ _).alloc (Nat.le_refl _) _), (Below.refl _ _).alloc (Nat.le_refl _) _, by simp, by simp⟩)
  clear hn hf hl hT
  by_cases h0 : m < 0 ∨ 4096 < m
  · have HC := Lib.hid (show chkN m L = 8 from by unfold chkN; rw [if_pos h0])
    have HI := Lib.hid (in_no m h0)
    clear h0
    go_enter Try.func33, Try.ntmps33
    go_wp2_with fail
    refine (HI.out _).mono ?_
    rintro e w1 ⟨rfl, hw⟩
    subst hw
    go_wp2_with fail
    refine bodyPost_ret (v := .int .i64 8) (by simp [results, Try.results33, go_sem]) rfl ⟨by rw [HC.out], HT.out.below⟩
  · have HC := Lib.hid (show chkN m L = if L.any (·.never) then 4 else if m < (sumF L : Nat) then 5 else 0 from by unfold chkN; rw [if_neg h0])
    have HI := Lib.hid (in_yes m (by omega))
    clear h0
    generalize sumF L = S at HC HSZ
    go_enter Try.func33, Try.ntmps33
    go_wp2_with fail
    refine (HI.out _).mono ?_
    rintro e w1 ⟨rfl, hw⟩
    subst hw
    generalize (w.alloc (.cells #[.int .i64 m, .slice oa n cap] 48)) = W at HT ⊢
    have c1 := HT.out.c1
    generalize hqq : w.heap.size = q at HT c1 ⊢
    have HQQ := Lib.hid hqq
    clear hqq
    go_wp2_with fail
    refine (HCN.out _ HT.out.flds).mono ?_
    rintro e w2 ⟨rfl, hb⟩
    have HT2 := Lib.hid (HT.out.step hb)
    clear hb HT c1 HCN
    cases hx : L.any (·.never)
    · rw [hx] at HC
      clear hx
      go_wp2_with fail
      by_cases hms : m < (S : Int)
      · have hmsb : decide (m < (S : Int)) = true := by simpa using hms
        have HX2 := Lib.hid (show chkN m L = 5 from by rw [HC.out, if_pos hms]; simp)
        clear hms
        refine class_region (C := TabAt 48 q q m oa n cap L w) (by kernel_rfl) (by kernel_rfl) HT2.out.drew ?_
        repeat
          with_reducible refine qrest_step ?_
          intro K hK'
          go_simp
          with_reducible refine QOp.mk ?_
          apply Exists.intro
          with_reducible refine ⟨?_, hK' _ ?_⟩
          · intro W hW
            first
              | exact qat_load_row 48 (.tmp 1) rfl q rfl _ #[.int .i64 m, .slice oa n cap] (0, 0) _ hW.row Try.underlying48 rfl (by kernel_rfl)
              | (have c0 := hW.c0
                 unfold QAt
                 go_simp
                 first
                   | (with_reducible rfl)
                   | (go_at_call 31; refine (HSZ.out _ hW.flds).mono ?_; rintro e w' ⟨rfl, hb⟩; exact ⟨rfl, hW.step hb⟩))
          clear hK' K
        with_reducible refine qrest_nil ?_
        intro w' hw'
        go_wp2_with fail
        refine bodyPost_ret (v := .int .i64 5) (by simp [results, Try.results33, go_sem]) rfl ⟨by rw [HX2.out], by rw [HQQ.out]; exact hw'.below⟩
      · have hmsb : decide (m < (S : Int)) = false := by simpa using hms
        have HX2 := Lib.hid (show chkN m L = 0 from by rw [HC.out, if_neg hms]; simp)
        clear hms
        refine class_region (C := TabAt 48 q q m oa n cap L w) (by kernel_rfl) (by kernel_rfl) HT2.out.drew ?_
        repeat
          with_reducible refine qrest_step ?_
          intro K hK'
          go_simp
          with_reducible refine QOp.mk ?_
          apply Exists.intro
          with_reducible refine ⟨?_, hK' _ ?_⟩
          · intro W hW
            first
              | exact qat_load_row 48 (.tmp 1) rfl q rfl _ #[.int .i64 m, .slice oa n cap] (0, 0) _ hW.row Try.underlying48 rfl (by kernel_rfl)
              | (have c0 := hW.c0
                 unfold QAt
                 go_simp
                 first
                   | (with_reducible rfl)
                   | (go_at_call 31; refine (HSZ.out _ hW.flds).mono ?_; rintro e w' ⟨rfl, hb⟩; exact ⟨rfl, hW.step hb⟩))
          clear hK' K
        with_reducible refine qrest_nil ?_
        intro w' hw'
        go_wp2_with fail
        refine bodyPost_ret (v := .int .i64 0) (by simp [results, Try.results33, go_sem]) rfl ⟨by rw [HX2.out], by rw [HQQ.out]; exact hw'.below⟩
    · have HX := Lib.hid (show chkN m L = 4 from by rw [HC.out, hx]; simp)
      clear hx
      go_wp2_with fail
      refine bodyPost_ret (v := .int .i64 4) (by simp [results, Try.results33, go_sem]) rfl ⟨by rw [HX.out], by rw [HQQ.out]; exact HT2.out.below⟩
end Go.Proofs.Ytmnaljnkgaebkaa
