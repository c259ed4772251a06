/- Whether a table may be: the document's Check. -/
import Derived.Test.YteceinojmdgmeaaC13
import Derived.Test.YteceinojmdgmeaaC01
namespace Go.Proofs.Yteceinojmdgmeaa
open Go.RowKit
set_option linter.unusedVariables false
set_option linter.unusedSimpArgs false

/-- A table's block, its fields, and what has not turned. -/
structure TabAt (ty : TypeId) (q B : Nat) (m : Int) (oa : Option Addr) (n cap : Nat) (L : List Fld) (w W : World) : Prop where
  row : W.heap[q]? = some (.cells #[.int .i64 m, .slice oa n cap] ty (0, 0))
  flds : FieldsN W oa L
  below : Below B w W
  base : B ≤ W.heap.size
  lt : q < W.heap.size
theorem TabAt.step {ty : TypeId} {q B : Nat} {m : Int} {oa : Option Addr} {n cap : Nat} {L : List Fld} {w W W' : World} (hb : Below W.heap.size W W') (h : TabAt ty q B m oa n cap L w W) : TabAt ty q B m oa n cap L w W' :=
  ⟨(hb.block q h.lt).trans h.row, h.flds.below hb, h.below.trans (hb.mono h.base), Nat.le_trans h.base hb.size, Nat.lt_of_lt_of_le h.lt hb.size⟩
theorem TabAt.drew {ty : TypeId} {q B : Nat} {m : Int} {oa : Option Addr} {n cap : Nat} {L : List Fld} {w W : World} (h : TabAt ty q B m oa n cap L w W) : TabAt ty q B m oa n cap L w W.drew := ⟨h.row, h.flds, h.below.drew, h.base, h.lt⟩
theorem TabAt.c0 {ty : TypeId} {q B : Nat} {m : Int} {oa : Option Addr} {n cap : Nat} {L : List Fld} {w W : World} (h : TabAt ty q B m oa n cap L w W) : W.cell? ⟨q, 0, none⟩ = some (.int .i64 m) := cell_of_row _ _ _ _ _ _ h.row
theorem TabAt.c1 {ty : TypeId} {q B : Nat} {m : Int} {oa : Option Addr} {n cap : Nat} {L : List Fld} {w W : World} (h : TabAt ty q B m oa n cap L w W) : W.cell? ⟨q, 1, none⟩ = some (.slice oa n cap) := cell_of_row _ _ _ _ _ _ h.row
/-- The error of a table, by number. -/
def chkN (m : Int) (L : List Fld) : Int :=
  if m < 0 ∨ 4096 < m then 8 else if L.any (·.never) then 4 else if m < (sumF L : Nat) then 5 else 0
set_option maxRecDepth 100000 in
set_option maxHeartbeats 1000000 in
theorem refCheck_any (m : Int) (oa : Option Addr) (n cap : Nat) (L : List Fld) (hn : L.length = n) (hl : ∀ f ∈ L, lightF f = true) (hn30 : n ≤ 1000) (w : World) (hf : FieldsN w oa L) :
    Calls Try.prog 46 #[.agg #[.int .i64 m, .slice oa n cap]] w fun e w' => e = .returned (.int .i64 (chkN m L)) ∧ Below w.heap.size w w' := by
  have HS := Lib.hid (fun W hW => refSize_tab m oa n cap L hn hl hn30 W hW)
  have HN := Lib.hid hn
  have HF := Lib.hid hf
  clear hn hf hl
  by_cases h0 : m < 0
  · have h0b : decide (m < 0) = true := by simpa using h0
    have HC := Lib.hid (show chkN m L = 8 from by unfold chkN; rw [if_pos (.inl h0)])
    clear h0
    go_enter Try.func46, Try.ntmps46
    go_wp2_with fail
    refine bodyPost_ret (v := .int .i64 8) (by simp [results, Try.results46, go_sem]) rfl ⟨by rw [HC.out], (Below.refl _ _).alloc (Nat.le_refl _) _⟩
  · have h0b : decide (m < 0) = false := by simpa using h0
    by_cases h1 : 4096 < m
    · have h1b : decide ((4096 : Int) < m) = true := by simpa using h1
      have HC := Lib.hid (show chkN m L = 8 from by unfold chkN; rw [if_pos (.inr h1)])
      clear h0 h1
      go_enter Try.func46, Try.ntmps46
      go_wp2_with fail
      refine bodyPost_ret (v := .int .i64 8) (by simp [results, Try.results46, go_sem]) rfl ⟨by rw [HC.out], (Below.refl _ _).alloc (Nat.le_refl _) _⟩
    · have h1b : decide ((4096 : Int) < m) = false := by simpa using h1
      have HC := Lib.hid (show chkN m L = if L.any (·.never) then 4 else if m < (sumF L : Nat) then 5 else 0 from by unfold chkN; rw [if_neg (by omega)])
      clear h0 h1
      go_enter Try.func46, Try.ntmps46
      go_wp2_with fail
      have HB0 := Lib.hid ((Below.refl w.heap.size w).alloc (Nat.le_refl _) (.cells #[.int .i64 m, .slice oa n cap] 38))
      have HF1 := Lib.hid (HF.out.below HB0.out)
      have hT : (w.alloc (.cells #[.int .i64 m, .slice oa n cap] 38)).heap[w.heap.size]? = some (.cells #[.int .i64 m, .slice oa n cap] 38 (0, 0)) := heap_alloc_new w _
      have HT := Lib.hid hT
      have hs1 : w.heap.size < (w.alloc (.cells #[.int .i64 m, .slice oa n cap] 38)).heap.size := by simp
      generalize (w.alloc (.cells #[.int .i64 m, .slice oa n cap] 38)) = W at HB0 HF1 hT HT hs1 ⊢
      clear hT
      go_loopw [3] (fun i wr => ∃ k : Nat, k ≤ n ∧ i = .int .i64 k ∧ (L.take k).any (·.never) = false ∧ wr = W) (fun i _ => n - (intOf i).toNat)
      case atStart => exact ⟨0, Nat.zero_le _, rfl, by simp, rfl⟩
      case round =>
        obtain ⟨k, hk, rfl, hany, rfl⟩ := hrel
        have HA := Lib.hid hany
        clear hany
        have c0 : wr.cell? ⟨w.heap.size, 0, none⟩ = some (.int .i64 m) := cell_of_row _ _ _ _ _ _ HT.out
        have c1 : wr.cell? ⟨w.heap.size, 1, none⟩ = some (.slice oa n cap) := cell_of_row _ _ _ _ _ _ HT.out
        by_cases hlt : k < n
        · have hki : (k : Int) < (n : Int) := by omega
          have hkL : k < L.length := by rw [HN.out]; exact hlt
          obtain ⟨b, o, rfl, g1, g2, g3⟩ := HF1.out k L[k] (List.getElem?_eq_getElem hkL)
          have HTK := Lib.hid (show (L.take (k + 1)).any (·.never) = L[k].never from by
            rw [List.take_succ_eq_append_getElem hkL, List.any_append, HA.out]; simp)
          have HIN := Lib.hid (show L[k].never = true → L.any (·.never) = true from fun h => List.any_eq_true.2 ⟨L[k], List.getElem_mem hkL, h⟩)
          generalize L[k] = f at g1 g2 g3 HTK HIN
          obtain ⟨nm, vl, nv⟩ := f
          simp only at g1 g2 g3
          clear g1 g2
          cases nv
          · go_wp2_with fail
            go_roundw
            case rel => exact ⟨k + 1, by omega, by go_num, HTK.out, by trivial⟩
            case measure => simp [intOf]; omega
          · have HX := Lib.hid (HIN.out rfl)
            go_wp2_with fail
            refine bodyPost_ret (v := .int .i64 4) (by simp [results, Try.results46, go_sem]) rfl ⟨by rw [HC.out, if_pos HX.out], HB0.out⟩
        · obtain rfl : k = n := by omega
          have HX := Lib.hid (show L.any (·.never) = false from by have := HA.out; rwa [List.take_of_length_le (by rw [HN.out]; exact Nat.le_refl _)] at this)
          go_wp2_with fail
          have hTA : TabAt 38 w.heap.size w.heap.size m oa k cap L w wr := ⟨HT.out, HF1.out, HB0.out, HB0.out.size, hs1⟩
          have HSZ := Lib.hid HS.out
          generalize hqq : w.heap.size = q at hTA
          have HQQ := Lib.hid hqq
          generalize sumF L = S at HC HSZ
          clear c0 c1 HS HF HF1 HT HB0
          by_cases hms : m < (S : Int)
          · have hmsb : decide (m < (S : Int)) = true := by simpa using hms
            have HX2 := Lib.hid (show chkN m L = 5 from by rw [HC.out, HX.out, if_pos hms]; simp)
            clear hms
            refine class_region (C := TabAt 38 q q m oa k cap L w) (by kernel_rfl) (by kernel_rfl) hTA.drew ?_
            iterate 5
              with_reducible refine qrest_step ?_
              intro K hK'
              go_simp
              with_reducible refine QOp.mk ?_
              apply Exists.intro
              with_reducible refine ⟨?_, hK' _ ?_⟩
              · intro W hW
                first
                  | exact qat_load_row 38 (.tmp 1) rfl q rfl _ #[.int .i64 m, .slice oa k cap] (0, 0) _ hW.row Try.underlying38 rfl (by kernel_rfl)
                  | (have c0 := hW.c0
                     unfold QAt
                     go_simp
                     first
                       | (with_reducible rfl)
                       | (go_at_call 72; refine (HSZ.out _ hW.flds).mono ?_; rintro e w' ⟨rfl, hb⟩; exact ⟨rfl, hW.step hb⟩))
              clear hK' K
            with_reducible refine qrest_nil ?_
            intro w' hw'
            go_wp2_with fail
            refine bodyPost_ret (v := .int .i64 5) (by simp [results, Try.results46, go_sem]) rfl ⟨by rw [HX2.out], by rw [HQQ.out]; exact hw'.below⟩
          · have hmsb : decide (m < (S : Int)) = false := by simpa using hms
            have HX2 := Lib.hid (show chkN m L = 0 from by rw [HC.out, HX.out, if_neg hms]; simp)
            clear hms
            refine class_region (C := TabAt 38 q q m oa k cap L w) (by kernel_rfl) (by kernel_rfl) hTA.drew ?_
            iterate 5
              with_reducible refine qrest_step ?_
              intro K hK'
              go_simp
              with_reducible refine QOp.mk ?_
              apply Exists.intro
              with_reducible refine ⟨?_, hK' _ ?_⟩
              · intro W hW
                first
                  | exact qat_load_row 38 (.tmp 1) rfl q rfl _ #[.int .i64 m, .slice oa k cap] (0, 0) _ hW.row Try.underlying38 rfl (by kernel_rfl)
                  | (have c0 := hW.c0
                     unfold QAt
                     go_simp
                     first
                       | (with_reducible rfl)
                       | (go_at_call 72; refine (HSZ.out _ hW.flds).mono ?_; rintro e w' ⟨rfl, hb⟩; exact ⟨rfl, hW.step hb⟩))
              clear hK' K
            with_reducible refine qrest_nil ?_
            intro w' hw'
            go_wp2_with fail
            refine bodyPost_ret (v := .int .i64 0) (by simp [results, Try.results46, go_sem]) rfl ⟨by rw [HX2.out], by rw [HQQ.out]; exact hw'.below⟩
end Go.Proofs.Yteceinojmdgmeaa

