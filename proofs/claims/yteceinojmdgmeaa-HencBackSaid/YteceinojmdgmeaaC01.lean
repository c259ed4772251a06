/- What huff.codes returns at the lengths: the codes of all bytes. -/
import Derived.Test.YteceinojmdgmeaaC00
namespace Go.Proofs.Yteceinojmdgmeaa
open Go.RowKit
set_option linter.unusedVariables false
set_option linter.unusedSimpArgs false

theorem cell_row {w : World} {g : Nat} {k : IntKind} {l : List Nat} {t : TypeId} (h : w.heap[g]? = some (.cells (rowK k l) t (0, 0))) (i : Nat) (hi : i < l.length) : w.cell? ⟨g, i, none⟩ = some (.int k (l.getD i 0 : Nat)) := by
  rw [cell_of_row w g i _ _ _ h, rowK_at k l i hi]
theorem frozen_row {w : World} {g : Nat} {cs : Array Value} {t : TypeId} (h : w.heap[g]? = some (.cells cs t (0, 0))) (i : Nat) : w.frozen? ⟨g, i, none⟩ = false := by
  simp [World.frozen?, h]
theorem set_row {w : World} {g : Nat} {k : IntKind} {l : List Nat} {t : TypeId} (h : w.heap[g]? = some (.cells (rowK k l) t (0, 0))) (i v : Nat) :
    (w.setCell ⟨g, i, none⟩ (.int k (v : Nat))).heap[g]? = some (.cells (rowK k (l.set i v)) t (0, 0)) := by
  rw [setCell_eq_setRow w g i _ _ _ _ h, rowK_set, setRow_heap w g _ _ _ _ h]
theorem set_other {w : World} {g g' : Nat} {o : Obj} (h : w.heap[g]? = some o) (i : Nat) (v : Value) (hne : g ≠ g') : (w.setCell ⟨g', i, none⟩ v).heap[g]? = some o :=
  (Below.heap_setCell w ⟨g', i, none⟩ v g hne).trans h

theorem manyL_len : manyL.length = 31 := by decide
theorem heap3 (w : World) (A B C : Obj) : (((w.alloc A).alloc B).alloc C).heap[w.heap.size]? = some A ∧ (((w.alloc A).alloc B).alloc C).heap[w.heap.size + 1]? = some B ∧ (((w.alloc A).alloc B).alloc C).heap[w.heap.size + 1 + 1]? = some C := by
  refine ⟨?_, ?_, ?_⟩
  · rw [heap_alloc_old _ _ (by simp; omega), heap_alloc2_old]
  · rw [heap_alloc_old _ _ (by simp), heap_alloc2_new]
  · have h := heap_alloc_new ((w.alloc A).alloc B) C
    have e : ((w.alloc A).alloc B).heap.size = w.heap.size + 1 + 1 := by simp
    rwa [e] at h
theorem alloc256 (d : Option Tmp) (ty : TypeId) (pos : String) (af : Array Edge) (gd : Option (Nat × Bool)) (ρ : Operand → Value) (W : World) :
    (execOp ρ { dst := d, op := .alloc 139, type := ty, pos := pos, after := af, guard := gd }).run Try.prog W = .ok (.value (.pointer (some ⟨W.heap.size, 0, none⟩))) (W.alloc (.cells (rowK .u32 z256) 139)) := by kernel_rfl
theorem alloc31 (d : Option Tmp) (ty : TypeId) (pos : String) (af : Array Edge) (gd : Option (Nat × Bool)) (ρ : Operand → Value) (W : World) :
    (execOp ρ { dst := d, op := .alloc 149, type := ty, pos := pos, after := af, guard := gd }).run Try.prog W = .ok (.value (.pointer (some ⟨W.heap.size, 0, none⟩))) (W.alloc (.cells (rowK .u32 z31) 149)) := by kernel_rfl
set_option maxRecDepth 100000 in
set_option maxHeartbeats 1000000 in
theorem codes_any (w : World) : Calls Try.prog 87 #[.agg (rowK .u8 lenL)] w fun e w' => e = .returned (.agg (rowK .u32 codeL)) ∧ Below w.heap.size w w' := by
  have hcs := rowK_size .u8 lenL
  rw [lenL_len] at hcs
  have HCS := Lib.hid hcs
  clear hcs
  go_enter Try.func87, Try.ntmps87
  go_wp2_with (first
    | (refine Great.wpList_boxTo rfl 137 _ rfl (some 1) rfl w.heap.size rfl (rowK .u8 lenL) rfl ?_)
    | (refine Great.wpList_allocTo rfl _ rfl _ _ (alloc256 _ _ _ _ _ _ _) ?_)
    | (refine Great.wpList_allocTo rfl _ rfl _ _ (alloc31 _ _ _ _ _ _ _) ?_)
    | (refine wpList_load_row rfl 137 _ rfl w.heap.size rfl 137 (rowK .u8 lenL) (0, 0) _ (heap3 _ _ _ _).1 Try.underlying137 rfl (by kernel_rfl) ?_))
  obtain ⟨hA, hR, hM⟩ := heap3 w (.cells (rowK .u8 lenL) 137) (.cells (rowK .u32 z256) 139) (.cells (rowK .u32 z31) 149)
  have b1 : Below w.heap.size w (((w.alloc (.cells (rowK .u8 lenL) 137)).alloc (.cells (rowK .u32 z256) 139)).alloc (.cells (rowK .u32 z31) 149)) := (((Below.refl _ _).alloc (Nat.le_refl _) _).alloc (by simp) _).alloc (by simp; omega) _
  have z1 : w.heap.size + 1 + 1 < (((w.alloc (.cells (rowK .u8 lenL) 137)).alloc (.cells (rowK .u32 z256) 139)).alloc (.cells (rowK .u32 z31) 149)).heap.size := by simp
  generalize ((w.alloc (.cells (rowK .u8 lenL) 137)).alloc (.cells (rowK .u32 z256) 139)).alloc (.cells (rowK .u32 z31) 149) = W1 at hA hR hM b1 z1 ⊢
  have HA := Lib.hid hA
  have HR := Lib.hid hR
  have HM := Lib.hid hM
  clear hA hR hM
  go_loopw [12] (fun i wr => ∃ k : Nat, k ≤ 256 ∧ i = .int .i64 k ∧ Below w.heap.size w wr ∧ w.heap.size + 1 + 1 < wr.heap.size ∧ wr.heap[w.heap.size]? = some (.cells (rowK .u8 lenL) 137 (0, 0)) ∧ wr.heap[w.heap.size + 1]? = some (.cells (rowK .u32 z256) 139 (0, 0)) ∧ wr.heap[w.heap.size + 1 + 1]? = some (.cells (rowK .u32 (mSt k)) 149 (0, 0))) (fun i _ => 256 - (intOf i).toNat)
  case atStart => exact ⟨0, Nat.zero_le _, rfl, b1, z1, HA.out, HR.out, HM.out⟩
  case round =>
    obtain ⟨k, hk, rfl, bk, zk, hA, hR, hM⟩ := hrel
    have HA := Lib.hid hA
    have HR := Lib.hid hR
    have HM := Lib.hid hM
    have BK := Lib.hid bk
    clear hA hR hM b1 z1 bk
    by_cases hlt : k < 256
    · have hidx := fun W => len_index k hlt W
      obtain ⟨n1, n2⟩ := len_range k hlt
      have hc := cell_row HM.out (lenOf k) (by rw [mSt_len]; omega)
      have hf := frozen_row HM.out (lenOf k)
      have hle := mSt_le k (lenOf k)
      have HS := Lib.hid (set_row HM.out (lenOf k) ((mSt k).getD (lenOf k) 0 + 1))
      generalize hq : (mSt k).getD (lenOf k) 0 = q at hc hle HS
      have HQ := Lib.hid hq
      clear hq
      go_wp2_with fail
      go_roundw
      case rel =>
        refine ⟨k + 1, by omega, by go_num, BK.out.setCell (by simp; omega) _, by simp [World.setCell]; omega, set_other HA.out _ _ (by omega), set_other HR.out _ _ (by omega), ?_⟩
        show _ = some (Obj.cells (rowK .u32 ((mSt k).set (lenOf k) ((mSt k).getD (lenOf k) 0 + 1))) _ _)
        rw [HQ.out]
        exact HS.out
      case measure => simp [intOf]; omega
    · obtain rfl : k = 256 := by omega
      have HM2 : Hid (wr.heap[w.heap.size + 1 + 1]? = some (.cells (rowK .u32 manyL) 149 (0, 0))) := Lib.hid (by rw [← mSt_end]; exact HM.out)
      clear HM
      go_wp2_with (refine Great.wpList_allocTo rfl _ rfl _ _ (alloc31 _ _ _ _ _ _ _) ?_)
      have hA := (heap_alloc_old wr (.cells (rowK .u32 z31) 149) (Nat.lt_of_le_of_lt (by omega) zk)).trans HA.out
      have hR := (heap_alloc_old wr (.cells (rowK .u32 z31) 149) (Nat.lt_of_le_of_lt (by omega) zk)).trans HR.out
      have hM := (heap_alloc_old wr (.cells (rowK .u32 z31) 149) zk).trans HM2.out
      have hN := heap_alloc_new wr (.cells (rowK .u32 z31) 149)
      have b2 : Below w.heap.size w (wr.alloc (.cells (rowK .u32 z31) 149)) := BK.out.alloc BK.out.size _
      have z2 : wr.heap.size < (wr.alloc (.cells (rowK .u32 z31) 149)).heap.size := by simp
      generalize wr.alloc (.cells (rowK .u32 z31) 149) = W2 at hA hR hM hN b2 z2 ⊢
      generalize wr.heap.size = c at zk hN z2 ⊢
      clear HA HR HM2 BK
      have HA := Lib.hid hA
      have HR := Lib.hid hR
      have HM := Lib.hid hM
      have HN := Lib.hid hN
      clear hA hR hM hN
      go_loopw [7] (fun i v => ∃ k : Nat, k ≤ 30 ∧ i = .int .i64 ((k : Int) + 1) ∧ Below w.heap.size w v ∧ c < v.heap.size ∧ v.heap[w.heap.size]? = some (.cells (rowK .u8 lenL) 137 (0, 0)) ∧ v.heap[w.heap.size + 1]? = some (.cells (rowK .u32 z256) 139 (0, 0)) ∧ v.heap[w.heap.size + 1 + 1]? = some (.cells (rowK .u32 manyL) 149 (0, 0)) ∧ v.heap[c]? = some (.cells (rowK .u32 (nSt k)) 149 (0, 0))) (fun i _ => 31 - (intOf i).toNat)
      case atStart => exact ⟨0, Nat.zero_le _, rfl, b2, z2, HA.out, HR.out, HM.out, HN.out⟩
      case round =>
        obtain ⟨k, hk, rfl, bk, zk2, hA, hR, hM, hN⟩ := hrel
        have HA := Lib.hid hA
        have HR := Lib.hid hR
        have HM := Lib.hid hM
        have HN := Lib.hid hN
        have BK := Lib.hid bk
        clear hA hR hM hN b2 z2 bk
        by_cases hlt : k < 30
        · have hc := cell_row HN.out k (by rw [nSt_len]; omega)
          have hd := cell_row HM.out k (by rw [manyL_len]; omega)
          have he := cell_row HN.out (k + 1) (by rw [nSt_len]; omega)
          have hf := frozen_row HN.out (k + 1)
          have hle := nSt_lt k hlt
          go_wp2_with fail
          generalize hq : (nSt k).getD k 0 = q at hc hle
          generalize hr : manyL.getD k 0 = r at hd hle
          have HQ := Lib.hid hq
          have HRR := Lib.hid hr
          clear hq hr
          have HS := Lib.hid (set_row HN.out (k + 1) ((q + r) * 2))
          go_region
          go_wp2_with fail
          go_roundw
          case rel =>
            refine ⟨k + 1, by omega, by go_num, (BK.out.setCell (by simp; omega) _).drew, ?_, set_other HA.out _ _ (by omega), set_other HR.out _ _ (by omega), set_other HM.out _ _ (by omega), ?_⟩
            · show c < (wr.setCell _ _).heap.size
              simp [World.setCell]; omega
            · show _ = some (Obj.cells (rowK .u32 ((nSt k).set (k + 1) (((nSt k).getD k 0 + manyL.getD k 0) * 2))) _ _)
              rw [HQ.out, HRR.out]
              exact HS.out
          case measure => simp [intOf]; omega
        · obtain rfl : k = 30 := by omega
          have HN2 : Hid (wr.heap[c]? = some (.cells (rowK .u32 nextL) 149 (0, 0))) := Lib.hid (by rw [← nSt_end]; exact HN.out)
          clear HN
          have hA' := Lib.hid ((heap_alloc_old wr (.cells (rowK .u32 z256) 139) (Nat.lt_of_le_of_lt (by omega) zk2)).trans HA.out)
          go_wp2_with (first
            | (refine Great.wpList_allocTo rfl _ rfl _ _ (alloc256 _ _ _ _ _ _ _) ?_)
            | (refine wpList_load_row rfl 137 _ rfl w.heap.size rfl 137 (rowK .u8 lenL) (0, 0) _ hA'.out Try.underlying137 rfl (by kernel_rfl) ?_))
          have hR := (heap_alloc_old wr (.cells (rowK .u32 z256) 139) (Nat.lt_of_le_of_lt (by omega) zk2)).trans HR.out
          have hN := (heap_alloc_old wr (.cells (rowK .u32 z256) 139) zk2).trans HN2.out
          have hO := heap_alloc_new wr (.cells (rowK .u32 z256) 139)
          have b3 : Below w.heap.size w (wr.alloc (.cells (rowK .u32 z256) 139)) := BK.out.alloc BK.out.size _
          have z3 : wr.heap.size < (wr.alloc (.cells (rowK .u32 z256) 139)).heap.size := by simp
          generalize wr.alloc (.cells (rowK .u32 z256) 139) = W3 at hR hN hO b3 z3 ⊢
          generalize wr.heap.size = d at zk2 hO z3 ⊢
          clear HA HR HM HN2 BK hA'
          have HR := Lib.hid hR
          have HN := Lib.hid hN
          have HO := Lib.hid hO
          clear hR hN hO
          go_loopw [38] (fun i v => ∃ k : Nat, k ≤ 256 ∧ i = .int .i64 k ∧ Below w.heap.size w v ∧ d < v.heap.size ∧ v.heap[w.heap.size + 1]? = some (.cells (rowK .u32 z256) 139 (0, 0)) ∧ v.heap[c]? = some (.cells (rowK .u32 (xSt k)) 149 (0, 0)) ∧ v.heap[d]? = some (.cells (rowK .u32 (oSt k)) 139 (0, 0))) (fun i _ => 256 - (intOf i).toNat)
          case atStart => exact ⟨0, Nat.zero_le _, rfl, b3, z3, HR.out, HN.out, HO.out⟩
          case round =>
            obtain ⟨k, hk3, rfl, bk, zk3, hR, hN, hO⟩ := hrel
            have HR := Lib.hid hR
            have HN := Lib.hid hN
            have HO := Lib.hid hO
            have BK := Lib.hid bk
            clear hR hN hO b3 z3 bk
            by_cases hlt : k < 256
            · have hidx := fun W => len_index k hlt W
              obtain ⟨n1, n2⟩ := len_range k hlt
              have hc := cell_row HN.out (lenOf k) (by rw [xSt_len]; omega)
              have hf := frozen_row HN.out (lenOf k)
              have hd := cell_row HO.out k (by rw [oSt_len]; omega)
              have he := frozen_row HO.out k
              have hle := xSt_le k (lenOf k)
              generalize hq : (xSt k).getD (lenOf k) 0 = q at hc hle
              have HQ := Lib.hid hq
              clear hq
              have HS := Lib.hid (set_row HO.out k q)
              have HT := Lib.hid (set_row (set_other (g' := d) HN.out k (.int .u32 (q : Nat)) (by omega)) (lenOf k) (q + 1))
              go_wp2_with fail
              go_roundw
              case rel =>
                refine ⟨k + 1, by omega, by go_num, (BK.out.setCell (by simp; omega) _).setCell (by simp; omega) _, by simp [World.setCell]; omega, set_other (set_other HR.out _ _ (by omega)) _ _ (by omega), ?_, ?_⟩
                · show _ = some (Obj.cells (rowK .u32 ((xSt k).set (lenOf k) ((xSt k).getD (lenOf k) 0 + 1))) _ _)
                  rw [HQ.out]
                  exact HT.out
                · show _ = some (Obj.cells (rowK .u32 ((oSt k).set k ((xSt k).getD (lenOf k) 0))) _ _)
                  rw [HQ.out]
                  exact set_other HS.out _ _ (by omega)
              case measure => simp [intOf]; omega
            · obtain rfl : k = 256 := by omega
              have HO2 : Hid (wr.heap[d]? = some (.cells (rowK .u32 codeL) 139 (0, 0))) := Lib.hid (by rw [← oSt_end]; exact HO.out)
              clear HO
              go_wp2_with (first
                | (refine wpList_load_row rfl 139 _ rfl d rfl 139 (rowK .u32 codeL) (0, 0) _ HO2.out Try.underlying139 rfl (by kernel_rfl) ?_)
                | (refine wpList_store_rowTo rfl _ _ _ rfl rfl (w.heap.size + 1) (rowK .u32 codeL) rfl rfl _ _ HR.out (by kernel_rfl) (by kernel_rfl) (by kernel_rfl) ?_))
              exact bodyPost_ret (v := .agg (rowK .u32 codeL)) (results_cell_row rfl _ _ (w.heap.size + 1) _ _ (0, 0) _ rfl (setRow_heap _ _ _ _ _ _ HR.out) Try.underlying139 rfl (by kernel_rfl)) rfl ⟨rfl, below_setRow BK.out (by omega) _⟩
end Go.Proofs.Yteceinojmdgmeaa

