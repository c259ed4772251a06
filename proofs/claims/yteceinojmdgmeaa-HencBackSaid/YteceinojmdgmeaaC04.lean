/- What huff.Encode returns: a text's bits as bytes, in new memory. -/
import Derived.Test.YteceinojmdgmeaaC02
import Derived.Test.YteceinojmdgmeaaC03
import Derived.Maps.AppendAt
import Derived.BigQuiet
import Derived.Deep.RegionLaw
import Derived.Deep.AppendLies
import Derived.Deep.Onto
namespace Go.Proofs.Yteceinojmdgmeaa
open Go.RowKit
set_option linter.unusedVariables false
set_option linter.unusedSimpArgs false

theorem owns_below {w w' : World} {base : Nat} {e : TypeId} {size : Nat} {v : Value} {n : Nat} {xs : List Value} (h : w.ownsRow base e size v n xs) (hb : Below w.heap.size w w') : w'.ownsRow base e size v n xs := by
  have hg : w.grownBy w' none := ⟨hb.os, hb.tape, hb.output, hb.size, fun i hi _ => hb.block i hi⟩
  refine h.kept hg ?_
  cases hv : v.ownBlock with
  | none => exact .inl rfl
  | some k => exact .inr (by simp)
/-- A slice of bytes in memory of one's own: it holds these numbers. -/
def OwnB (w : World) (base : Nat) (v : Value) (l : List Nat) : Prop := w.ownsRow base 5 1 v l.length (l.map fun n : Nat => Value.int .u8 (n : Int))
def EncPost (s : ByteArray) (w : World) (e : Ending) (w' : World) : Prop := ∃ v, e = .returned v ∧ OwnB w' w.heap.size v (encL s.data.toList) ∧ Below w.heap.size w w'

structure HasTabs (g gc h : Nat) (s : ByteArray) (W : World) : Prop where
  lens : W.heap[g]? = some (.cells (rowK .u8 lenL) 137 (0, 0))
  codes : W.heap[gc]? = some (.cells (rowK .u32 codeL) 139 (0, 0))
  text : HasText h s W
  ltg : g < W.heap.size
  ltgc : gc < W.heap.size
  lth : h < W.heap.size
theorem HasTabs.keep {g gc h : Nat} {s : ByteArray} {W W' : World} (t : HasTabs g gc h s W) (hb : Below W.heap.size W W') : HasTabs g gc h s W' :=
  ⟨(hb.block g t.ltg).trans t.lens, (hb.block gc t.ltgc).trans t.codes, ⟨fun k hk => (hb.cell (p := ⟨h, k, none⟩) t.lth).trans (t.text.cell k hk)⟩,
    Nat.lt_of_lt_of_le t.ltg hb.size, Nat.lt_of_lt_of_le t.ltgc hb.size, Nat.lt_of_lt_of_le t.lth hb.size⟩

theorem HasTabs.lenCell {g gc h : Nat} {s : ByteArray} {W : World} (t : HasTabs g gc h s W) (c : Nat) (hc : c < 256) : W.cell? ⟨g, c, none⟩ = some (.int .u8 (lenOf c : Nat)) := cell_row t.lens c (by rw [lenL_len]; exact hc)
theorem HasTabs.codeCell {g gc h : Nat} {s : ByteArray} {W : World} (t : HasTabs g gc h s W) (c : Nat) (hc : c < 256) : W.cell? ⟨gc, c, none⟩ = some (.int .u32 (codeOf c : Nat)) := cell_row t.codes c (by rw [codeL_len]; exact hc)
theorem cells_new (w : World) (cs : List Value) (t : TypeId) : ∀ j u, cs[j]? = some u → (w.alloc (.cells cs.toArray t)).cell? ((⟨w.heap.size, 0, none⟩ : Addr).add j) = some u := by
  intro j u hj
  have ha : ((⟨w.heap.size, 0, none⟩ : Addr).add j) = ⟨w.heap.size, j, none⟩ := by unfold Addr.add; split <;> simp_all
  rw [ha, cell_of_row _ _ _ _ _ _ (heap_alloc_new w _)]
  simpa using hj
theorem info_parts {t : TypeId} {z : Option Value} {a b : Nat} (h : (Try.prog.info? t).map (fun i => (i.zero, i.size, i.bytes)) = some (z, a, b)) : ∃ i, Try.prog.info? t = some i ∧ i.zero = z ∧ i.size = a ∧ i.bytes = b := by
  cases hi : Try.prog.info? t with
  | none => rw [hi] at h; simp at h
  | some i => rw [hi] at h; simp at h; exact ⟨i, rfl, h.1, h.2.1, h.2.2⟩
theorem code_small (c : UInt8) : codeOf c.toNat < 1073741824 := by
  have h1 := code_lt c.toNat c.toNat_lt
  have h2 := (len_range c.toNat c.toNat_lt).2
  have := pow_le_of (lenOf c.toNat) 30 h2
  omega
theorem mask_fact (M : Nat) (h : M < 8) : IntKind.u64.wrap (IntKind.u64.wrap (2 ^ M) - 1) = ((2 ^ M - 1 : Nat) : Int) := by
  have : ∀ M : Fin 8, IntKind.u64.wrap (IntKind.u64.wrap (2 ^ M.val) - 1) = ((2 ^ M.val - 1 : Nat) : Int) := by decide
  exact this ⟨M, h⟩
theorem mask8_fact (M : Nat) (h : M < 8) : IntKind.u8.wrap (IntKind.u8.wrap (2 ^ M) - 1) = ((2 ^ M - 1 : Nat) : Int) := by
  have : ∀ M : Fin 8, IntKind.u8.wrap (IntKind.u8.wrap (2 ^ M.val) - 1) = ((2 ^ M.val - 1 : Nat) : Int) := by decide
  exact this ⟨M, h⟩
def byteV (n : Nat) : Value := .int .u8 (n : Int)
theorem u8_info : (Try.prog.info? 5).map (fun i => (i.zero, i.size, i.bytes)) = some (some (.int .u8 0), 1, 1) := by kernel_rfl
theorem ownB_snoc {w : World} {base : Nat} {v : Value} {l : List Nat} {b : Nat} (h : w.ownsRow base 5 1 v (l.length + 1) (l.map (fun n : Nat => Value.int .u8 (n : Int)) ++ [Value.int .u8 (b : Int)])) : OwnB w base v (l ++ [b]) := by
  unfold OwnB
  rw [List.length_append, List.map_append]
  exact h
theorem ownB_to {w : World} {base : Nat} {v : Value} {l l' : List Nat} (h : OwnB w base v l) (e : l = l') : OwnB w base v l' := e ▸ h
def bitsTo (s : ByteArray) (k : Nat) : List Nat := textBits (s.data.toList.take k)
theorem bitsTo_zero (s : ByteArray) : bitsTo s 0 = [] := by simp [bitsTo, textBits]
theorem bitsTo_bits (s : ByteArray) (k : Nat) : isBits (bitsTo s k) := textBits_bits _
theorem bitsTo_succ (s : ByteArray) (k : Nat) (h : k < s.size) : bitsTo s (k + 1) = bitsTo s k ++ byteBits s[k] := by
  unfold bitsTo
  rw [take_byte s k h, textBits_snoc]
theorem bitsTo_len (s : ByteArray) (k : Nat) (hk : k ≤ s.size) (hs : s.size ≤ 1000000) : (bitsTo s k).length ≤ 30000000 := by
  unfold bitsTo
  rw [textBits_len]
  have h1 := bitsLen_le (s.data.toList.take k)
  have h3 : (s.data.toList.take k).length ≤ s.data.toList.length := by simp only [List.length_take]; omega
  have h4 := sz s
  omega
theorem bitsTo_all (s : ByteArray) : bitsTo s s.size = textBits s.data.toList := by unfold bitsTo; rw [take_all]

set_option maxRecDepth 100000 in
set_option maxHeartbeats 2000000 in
theorem encode_any (s : ByteArray) (hs : s.size ≤ 1000000) (w : World) : Calls Try.prog 78 #[.string s] w (EncPost s w) := by
  obtain ⟨i0, hi0, hz0, hz1, hz2⟩ := info_parts u8_info
  have HI := Lib.hid hi0
  have HZ0 := Lib.hid hz0
  have HZ1 := Lib.hid hz1
  have HZ2 := Lib.hid hz2
  clear hi0 hz0 hz1 hz2
  go_enter Try.func78, Try.ntmps78
  go_wp2_with fail
  refine (lengths_any _).mono ?_
  rintro e w1 ⟨rfl, hb1⟩
  have hconv := fun W => Lib.run_convert_string_bytes (P := Try.prog) W 9 23 5 s Try.underlying9 Try.underlying23 Try.underlying5
  have hL : HasLens w.heap.size w1.heap.size w ((w1.alloc (.cells (rowK .u8 z256) 137)).setRow w1.heap.size (rowK .u8 lenL)) :=
    ⟨setRow_heap _ _ _ _ _ _ (heap_alloc_new w1 _), below_setRow (hb1.alloc hb1.size _) hb1.size _, by have := hb1.size; simp; omega, by simp⟩
  clear hb1
  go_wp2_with (first
    | (refine Great.wpList_allocTo rfl (some 3) rfl _ _ (alloc256b _ _ _ _ _ _ _) ?_)
    | (refine wpList_store_row rfl _ _ _ rfl w1.heap.size (rowK .u8 lenL) rfl rfl _ _ (heap_alloc_new w1 _) (by kernel_rfl) (by kernel_rfl) (by kernel_rfl) ?_; generalize (w1.alloc (.cells (rowK .u8 z256) 137)).setRow w1.heap.size (rowK .u8 lenL) = W1 at hL ⊢; generalize w1.heap.size = g at hL ⊢)
    | (refine wpList_load_row rfl 137 _ rfl g rfl 137 (rowK .u8 lenL) (0, 0) _ hL.row Try.underlying137 rfl (by kernel_rfl) ?_))
  refine (codes_any _).mono ?_
  rintro e w2 ⟨rfl, hb2⟩
  have hL2 := hL.step hb2
  clear hL hb2
  go_wp2_with (first
    | (refine Great.wpList_allocTo rfl (some 4) rfl _ _ (alloc256 _ _ _ _ _ _ _) ?_)
    | (refine wpList_store_row rfl _ _ _ rfl w2.heap.size (rowK .u32 codeL) rfl rfl _ _ (heap_alloc_new w2 _) (by kernel_rfl) (by kernel_rfl) (by kernel_rfl) ?_))
  have hT := text_new ((w2.alloc (.cells (rowK .u32 z256) 139)).setRow w2.heap.size (rowK .u32 codeL)) 5 s
  have hbw := bytesWorld_below ((w2.alloc (.cells (rowK .u32 z256) 139)).setRow w2.heap.size (rowK .u32 codeL)) 5 s
  have hcr : ((w2.alloc (.cells (rowK .u32 z256) 139)).setRow w2.heap.size (rowK .u32 codeL)).heap[w2.heap.size]? = some (.cells (rowK .u32 codeL) 139 (0, 0)) := setRow_heap _ _ _ _ _ _ (heap_alloc_new w2 _)
  have hL3 : HasLens w.heap.size g w ((w2.alloc (.cells (rowK .u32 z256) 139)).setRow w2.heap.size (rowK .u32 codeL)) := hL2.step (below_setRow ((Below.refl _ _).alloc (Nat.le_refl _) _) (Nat.le_refl _) _)
  have hsz : ((w2.alloc (.cells (rowK .u32 z256) 139)).setRow w2.heap.size (rowK .u32 codeL)).heap.size = w2.heap.size + 1 := by simp
  have hbsz : w2.heap.size + 1 < (Lib.bytesWorld ((w2.alloc (.cells (rowK .u32 z256) 139)).setRow w2.heap.size (rowK .u32 codeL)) 5 s).heap.size := by rw [Lib.bytesWorld_size, hsz]; omega
  have hL4 := hL3.step hbw
  have hcr4 := (hbw.block w2.heap.size (by rw [hsz]; omega)).trans hcr
  rw [hsz] at hT
  generalize Lib.bytesWorld ((w2.alloc (.cells (rowK .u32 z256) 139)).setRow w2.heap.size (rowK .u32 codeL)) 5 s = W3 at hT hbsz hL4 hcr4 ⊢
  generalize w2.heap.size = gc at hT hbsz hcr4 ⊢
  have HT : HasTabs g gc (gc + 1) s W3 := ⟨hL4.row, hcr4, hT, hL4.lt, by omega, hbsz⟩
  have hB3 := hL4.below
  have hW3 := hL4.base
  clear hconv hL2 hL3 hL4 hbw hcr hcr4 hT hsz hbsz
  go_loopw [5, 6, 7, 17] (fun v hd m i wr => ∃ (vv : Value) (k : Nat), v = vv ∧ k ≤ s.size ∧ i = .int .i64 k ∧ hd = .int .u64 (heldOf (bitsTo s k) : Nat) ∧ m = .int .i64 ((bitsTo s k).length % 8 : Nat) ∧ OwnB wr W3.heap.size vv (doneOf (bitsTo s k)) ∧ Below W3.heap.size W3 wr) (fun _ _ _ i _ => s.size - (intOf i).toNat)
  case atStart => exact ⟨_, 0, rfl, Nat.zero_le _, rfl, by rw [bitsTo_zero]; rfl, by rw [bitsTo_zero]; rfl, by rw [bitsTo_zero]; exact World.ownsRow_nil _ _ _ _, Below.refl _ _⟩
  case round =>
    obtain ⟨v, k, hv, hk, rfl, rfl, rfl, hown, bk⟩ := hrel
    obtain rfl := hv.symm
    have HO := Lib.hid hown
    have BK := Lib.hid bk
    clear hown bk
    have HB := Lib.hid (bitsTo_bits s k)
    by_cases hlt : k < s.size
    · have HS := Lib.hid (bitsTo_succ s k hlt)
      have hln := bitsTo_len s k hk hs
      have hb := byte_lt s[k]
      have hbi : ((s[k].toNat : Nat) : Int) < 256 := by omega
      obtain ⟨n1, n2⟩ := len_range s[k].toNat hb
      have hc1 := (HT.keep BK.out).text.cell k hlt
      have hc2 := (HT.keep BK.out).lenCell s[k].toNat hb
      have hc3 := (HT.keep BK.out).codeCell s[k].toNat hb
      generalize bitsTo s k = B at HO HB HS hln ⊢
      generalize s[k] = c at HS hb hbi n1 n2 hc1 hc2 hc3 ⊢
      have hf1 := shl_fact B c HB.out
      have hf2 := or_fact B c HB.out
      have hwc : IntKind.u64.wrap ((codeOf c.toNat : Nat) : Int) = (codeOf c.toNat : Nat) := IntWalk.u64_in _ (by have := code_small c; omega)
      have HSH := Lib.hid (shr_fact B c HB.out)
      have HAN := Lib.hid (and_fact B c HB.out)
      have HDE := Lib.hid (done_end B c)
      have HD0 := Lib.hid (done_next B c)
      generalize heldOf B * 2 ^ lenOf c.toNat = X at hf1 hf2
      generalize hn : lenOf c.toNat = n at hf1 n1 n2 hc2 HSH HAN HDE ⊢
      have hml : B.length % 8 < 8 := Nat.mod_lt _ (by decide)
      generalize hm : B.length % 8 = m at hml HSH HAN HDE ⊢
      generalize heldOf B = H at hf1 ⊢
      go_wp2_with fail
      go_region
      go_wp2_with fail
      clear hf1 hf2 hwc hc1 hc2 hc3
      generalize heldNext B c = Y at HSH HAN ⊢
      go_loopw [5, 7] (fun v mm wr => ∃ (vv : Value) (j M : Nat), v = vv ∧ mm = .int .i64 M ∧ M + 8 * j = m + n ∧ OwnB wr W3.heap.size vv (packN (B.length / 8 + j) (B ++ byteBits c)) ∧ Below W3.heap.size W3 wr) (fun _ mm _ => (intOf mm).toNat)
      case atStart => exact ⟨_, 0, m + n, rfl, by go_num, by omega, ownB_to HO.out HD0.out.symm, BK.out.drew⟩
      case round =>
        clear HO BK
        obtain ⟨v, j, M, hv, rfl, hM, hown, bk⟩ := hrel
        obtain rfl := hv.symm
        have HO := Lib.hid hown
        have BK := Lib.hid bk
        clear hown bk hv
        by_cases h8 : M < 8
        · go_wp2_with fail
          go_roundw
          case rel => exact ⟨_, k + 1, rfl, by omega, by go_num, by rw [HS.out, mask_fact M h8, HAN.out j M hM h8], by rw [HS.out, ← (HDE.out j M hM h8).2], ownB_to HO.out (by rw [HS.out]; exact (HDE.out j M hM h8).1), BK.out⟩
          case measure => simp [intOf]; omega
        · obtain ⟨m', rfl⟩ : ∃ m', M = m' + 8 := ⟨M - 8, by omega⟩
          have hs1 := HSH.out j m' (by omega)
          have HDS := Lib.hid (done_step (B ++ byteBits c) (B.length / 8 + j))
          generalize valB (List.take 8 (List.drop (8 * (B.length / 8 + j)) (B ++ byteBits c))) = b at hs1 HDS
          have hc1 : ∀ u ∈ [Value.int .u8 (b : Int)], u.oneCell' = true := by intro u hu; simp at hu; subst hu; rfl
          have hc2 : (packN (B.length / 8 + j) (B ++ byteBits c)).length + 1 ≤ maxLen := by rw [packN_len]; unfold maxLen; omega
          have hc3 : ((packN (B.length / 8 + j) (B ++ byteBits c)).length + 1) * 1 ≤ 140737488355328 := by rw [packN_len]; omega
          have hc4 : W3.heap.size ≤ wr.heap.size := BK.out.size
          go_wp2_with (at_builtin; refine wpList_append_own_at _ rfl _ _ 23 rfl W3.heap.size 5 i0 _ 1 1 Try.underlying23 HI.out HZ0.out HZ1.out HZ2.out rfl (by omega) v _ _ rfl (HO.out.alloc _) ⟨wr.heap.size, 0, none⟩ 1 1 [Value.int .u8 (b : Int)] rfl rfl (cells_new wr [Value.int .u8 (b : Int)] _) hc1 hc2 hc3 (by simp; omega) ?_; intro v3 w3 hown3 hg3 _ _; clear hc1 hc2 hc3 hc4)
          have B3 := Lib.hid ((BK.out.alloc BK.out.size _).grown hg3 (by have := BK.out.size; simp; omega) (fun q hq => (HO.out.lt q hq).1))
          have HO3 := Lib.hid (ownB_to (ownB_snoc hown3) HDS.out.symm)
          clear hg3 hown3
          go_roundw
          case rel => exact ⟨_, j + 1, m', rfl, by go_num, by omega, HO3.out, B3.out⟩
          case measure => simp [intOf]; omega
    · obtain rfl : k = s.size := by omega
      have HA := Lib.hid (bitsTo_all s)
      have HE0 := Lib.hid (enc_end s.data.toList)
      have HE1 := Lib.hid (enc_last s.data.toList)
      have hln := bitsTo_len s s.size hk hs
      rw [← bitsTo_all s] at HE0 HE1
      generalize bitsTo s s.size = B at HO HB HA HE0 HE1 hln ⊢
      have HLF := Lib.hid (last_fact B HB.out)
      have hml : B.length % 8 < 8 := Nat.mod_lt _ (by decide)
      generalize hm : B.length % 8 = m at hml HLF HE0 HE1 ⊢
      by_cases hm0 : m = 0
      · subst hm0
        go_wp2_with fail
        go_ret
        exact ⟨v, rfl, ownB_to (World.ownsRow.mono HO.out hW3) (HE0.out (by trivial)).symm, hB3.trans (BK.out.mono hW3)⟩
      · have hpos : 0 < m := by omega
        have hposI : (0 : Int) < (m : Int) := by omega
        have hsub : (8 : Int) - (m : Int) = ((8 - m : Nat) : Int) := by omega
        obtain ⟨hl1, hl2, hl3⟩ := HLF.out hpos
        have hEE := HE1.out hpos
        have hmk := mask8_fact (8 - m) (by omega)
        have hr : 8 - m < 8 := by omega
        generalize 8 - m = r at hsub hl1 hl2 hl3 hEE hmk hr
        generalize heldOf B = H at hl1 hl2 hl3 hEE ⊢
        generalize H * 2 ^ r = X at hl1 hl2 hl3 hEE
        have hw8 : IntKind.u8.wrap (X : Int) = X := IntWalk.u8_in _ (by omega)
        have HEE := Lib.hid hEE
        clear hEE
        generalize X + (2 ^ r - 1) = b at hl3 HEE
        have hc1 : ∀ u ∈ [Value.int .u8 (b : Int)], u.oneCell' = true := by intro u hu; simp at hu; subst hu; rfl
        have hc2 : (doneOf B).length + 1 ≤ maxLen := by unfold doneOf; rw [packN_len]; unfold maxLen; omega
        have hc3 : ((doneOf B).length + 1) * 1 ≤ 140737488355328 := by unfold doneOf; rw [packN_len]; omega
        have hc4 : W3.heap.size ≤ wr.heap.size := BK.out.size
        go_wp2_with fail
        go_region_law ((refine step_append_lies _ (by rfl) _ _ _ (by rfl) W3.heap.size 5 i0 _ 1 1 Try.underlying23 HI.out HZ0.out HZ1.out HZ2.out rfl (by decide) v _ _ (by rfl) (World.ownsRow.alloc HO.out _) ⟨wr.heap.size, 0, none⟩ 1 1 [Value.int .u8 (b : Int)] (by rfl) rfl (cells_new wr [Value.int .u8 (b : Int)] _) hc1 (by decide) hc2 hc3 (by simp; omega) (wr.heap.size + 1) (by simp) ?_; intro g3 cap3 w3 hown3 hg3 hat3 hlt3))
        have B3 := Lib.hid ((BK.out.drew.alloc BK.out.size _).grown hg3 (by have := BK.out.size; simp; omega) (fun q hq => (HO.out.lt q hq).1))
        have HO3 := Lib.hid (ownB_to (ownB_snoc hown3) HEE.out.symm)
        clear hg3 hown3 hat3 hlt3
        have HBA := Lib.hid hB3
        clear hB3
        go_wp2_with fail
        go_ret
        exact ⟨_, rfl, World.ownsRow.mono HO3.out hW3, HBA.out.trans (B3.out.mono hW3)⟩
end Go.Proofs.Yteceinojmdgmeaa

