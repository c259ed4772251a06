/- HuffV · HuffX: joined by a program, for a claim has at most 60 files. -/
import Derived.Test.YteceinojmdgmeaaC05
import Derived.Laws.OwnMore
import Derived.Deep.AppendLies
import Derived.StillTailTactics
/- The walk of (*huff.Coder).plant. -/
namespace Go.Proofs.Yteceinojmdgmeaa
open Go.RowKit
set_option linter.unusedVariables false
set_option linter.unusedSimpArgs false

theorem bitsN_get (n v k : Nat) (h : k < n) : (bitsN n v)[k]? = some (v / 2 ^ (n - 1 - k) % 2) := by
  induction n generalizing v with
  | zero => omega
  | succ n ih =>
    rw [bitsN]
    by_cases hk : k < n
    · rw [List.getElem?_append_left (by rw [bitsN_len]; exact hk), ih _ hk, Nat.div_div_eq_div_mul]
      congr 3
      rw [show n + 1 - 1 - k = (n - 1 - k) + 1 from by omega, Nat.pow_succ, Nat.mul_comm]
    · obtain rfl : k = n := by omega
      rw [List.getElem?_append_right (by rw [bitsN_len]; exact Nat.le_refl _), bitsN_len]
      simp
theorem bit_fact (C r : Nat) (h : C < 4294967296) : bits BinOp.and IntKind.u32 ((C : Int) / 2 ^ r) 1 = ((C / 2 ^ r % 2 : Nat) : Int) := by
  have e : ((C : Int) / 2 ^ r) = ((C / 2 ^ r : Nat) : Int) := by simp
  have hle := Nat.div_le_self C (2 ^ r)
  rw [e, show (1 : Int) = ((1 : Nat) : Int) from rfl, u32_and_nat _ _ (by omega) (by omega), Nat.and_one_is_mod]
/-- The steps done behind k bits. -/
def walkTo (t : List Int) (c k : Nat) : List Int × Nat := ((codeBits c).take k).foldl stepL (t, 0)
theorem walkTo_succ (t : List Int) (c k : Nat) (h : k < lenOf c) : walkTo t c (k + 1) = stepL (walkTo t c k) (codeOf c / 2 ^ (lenOf c - 1 - k) % 2) := by
  have hk : k < (codeBits c).length := by unfold codeBits; rw [bitsN_len]; exact h
  unfold walkTo
  rw [List.take_succ_eq_append_getElem hk, List.foldl_append]
  have := bitsN_get (lenOf c) (codeOf c) k h
  rw [List.getElem?_eq_getElem (by rw [bitsN_len]; exact h)] at this
  simp only [Option.some.injEq] at this
  simp only [List.foldl_cons, List.foldl_nil]
  congr 1
theorem walkTo_ok (t : List Int) (c : Nat) (hr : runOk (t, 0) (codeBits c) = true) (k : Nat) (h : k < lenOf c) :
    2 * (walkTo t c k).2 + 1 < (walkTo t c k).1.length ∧ (walkTo t c k).1.length ≤ 1000 ∧ (walkTo t c k).1.length % 2 = 0 ∧ 0 ≤ (walkTo t c k).1.getD (2 * (walkTo t c k).2 + codeOf c / 2 ^ (lenOf c - 1 - k) % 2) 0 := by
  have hk : k < (codeBits c).length := by unfold codeBits; rw [bitsN_len]; exact h
  have h1 := runOk_at (codeBits c) (t, 0) hr k hk
  have := bitsN_get (lenOf c) (codeOf c) k h
  rw [List.getElem?_eq_getElem (by rw [bitsN_len]; exact h)] at this
  simp only [Option.some.injEq] at this
  have e : (codeBits c)[k] = codeOf c / 2 ^ (lenOf c - 1 - k) % 2 := this
  rw [e] at h1
  simp only [okS, Bool.and_eq_true, decide_eq_true_eq] at h1
  exact ⟨h1.1.1.1, h1.1.1.2, h1.1.2, h1.2⟩
theorem bit_fact0 (C : Nat) (h : C < 4294967296) : bits BinOp.and IntKind.u32 (C : Int) 1 = ((C % 2 : Nat) : Int) := by
  rw [show (1 : Int) = ((1 : Nat) : Int) from rfl, u32_and_nat _ _ (by omega) (by omega), Nat.and_one_is_mod]
theorem plantL_eq (t T : List Int) (c a : Nat) (h : walkTo t c (lenOf c - 1) = (T, a)) : plantL t c = T.set (2 * a + codeOf c % 2) (-1 - c) := by
  unfold walkTo at h
  unfold plantL
  simp only [h]
theorem treeV_set {W : World} {B g cap n : Nat} {t : List Int} (h : W.ownsRow B 172 2 (.slice (some ⟨g, 0, none⟩) n cap) n (t.map (Value.int .i64))) (hn : t.length / 2 = n) (j : Nat) (v : Int) :
    TreeV (W.setCell ⟨g, j, none⟩ (.int .i64 v)) B (.slice (some ⟨g, 0, none⟩) n cap) (t.set j v) := by
  have := (h.stored j (.int .i64 v)).1
  unfold TreeV
  rw [List.length_set, hn, List.map_set]
  exact this
theorem stepL_zero {T : List Int} {a b N : Nat} (hN : T.length / 2 = N) (h : T.getD (a * 2 + b) 0 = 0) : stepL (T, a) b = ((T ++ [0, 0]).set (a * 2 + b) (N : Nat), N) := by
  unfold stepL
  simp only [Nat.mul_comm 2 a, h, if_pos, hN]
theorem stepL_some {T : List Int} {a b : Nat} {V : Int} (h : T.getD (a * 2 + b) 0 = V) (hz : ¬ V = 0) : stepL (T, a) b = (T, V.toNat) := by
  unfold stepL
  simp only [Nat.mul_comm 2 a, h, if_neg hz]
theorem tree_cell {W : World} {B g cap n : Nat} {t : List Int} (h : W.ownsRow B 172 2 (.slice (some ⟨g, 0, none⟩) n cap) n (t.map (Value.int .i64))) (j : Nat) (hj : j < n * 2) (hl : j < t.length) :
    W.cell? ⟨g, j, none⟩ = some (.int .i64 (t.getD j 0)) := by
  rw [h.cellAt j hj, List.getElem?_map, List.getElem?_eq_getElem hl, List.getD_eq_getElem?_getD, List.getElem?_eq_getElem hl]
  rfl
def PlantPost (p B : Nat) (d m bt : Int) (t : List Int) (c : Nat) (w : World) (e : Ending) (w' : World) : Prop :=
  e = .returned (.tuple #[]) ∧ ∃ tv, CRow p w' d m tv bt ∧ TreeV w' B tv (plantL t c) ∧ Near p B w w' ∧ B ≤ w'.heap.size
set_option maxRecDepth 100000 in
set_option maxHeartbeats 1000000 in
theorem plant_any (p B : Nat) (hpB : p < B) (d m bt : Int) (tv : Value) (t : List Int) (c : Nat) (hc : c < 256) (hr : runOk (t, 0) (codeBits c) = true) (w : World) (hB : B ≤ w.heap.size)
    (hrow : CRow p w d m tv bt) (ht : TreeV w B tv t) :
    Calls Try.prog 100 #[.pointer (some ⟨p, 0, none⟩), .int .i64 (c : Int), .int .u32 (codeOf c : Nat), .int .i64 (lenOf c : Nat)] w (PlantPost p B d m bt t c w) := by
  obtain ⟨n1, n2⟩ := len_range c hc
  obtain ⟨i0, hi0, hz0, hz1, hz2⟩ := info_parts node_info
  have HI := Lib.hid hi0
  have HZ0 := Lib.hid hz0
  have HZ1 := Lib.hid hz1
  have HZ2 := Lib.hid hz2
  clear hi0 hz0 hz1 hz2
  have HR := Lib.hid hrow
  have HT := Lib.hid ht
  have HOK := Lib.hid (walkTo_ok t c hr)
  have HSU := Lib.hid (walkTo_succ t c)
  clear hrow ht hr
  go_enter Try.func100, Try.ntmps100
  go_wp2_with fail
  go_loopw [8, 9, 10] (fun at' i _ wr => ∃ (tv' : Value) (k r : Nat), r + k = lenOf c - 1 ∧ i = .int .i64 r ∧ at' = .int .i64 ((walkTo t c k).2 : Nat) ∧ CRow p wr d m tv' bt ∧ TreeV wr B tv' (walkTo t c k).1 ∧ Near p B w wr ∧ B ≤ wr.heap.size) (fun _ i _ _ => (intOf i).toNat)
  case atStart => exact ⟨_, 0, lenOf c - 1, by omega, by go_num, rfl, HR.out, HT.out, Near.refl _ _ _, hB⟩
  case round =>
    obtain ⟨tv', k, r, hk, rfl, rfl, hrow, ht, hn, hs⟩ := hrel
    have hkl : k < lenOf c := by omega
    obtain ⟨o1, o2, o3, o4⟩ := HOK.out k hkl
    have HS1 := Lib.hid (HSU.out k hkl)
    have e0 : lenOf c - 1 - k = r := by omega
    rw [e0] at o4 HS1
    have hW : walkTo t c k = ((walkTo t c k).1, (walkTo t c k).2) := rfl
    have HW := Lib.hid hW
    clear hW
    generalize (walkTo t c k).1 = T at HW ht o1 o2 o3 o4 ⊢
    generalize (walkTo t c k).2 = a at HW ht o1 o4 ⊢
    rw [HW.out] at HS1
    obtain ⟨N, hN⟩ : ∃ N, T.length / 2 = N := ⟨_, rfl⟩
    have hTN : T.length = 2 * N := by omega
    unfold TreeV at ht
    rw [hN] at ht
    obtain ⟨g, cap, hv, hg1, hg2⟩ := ht.form (by omega)
    subst hv
    have hpg : p ≠ g := by have := ht.lt g rfl; omega
    have hcT := hrow.cell.2.2.2.1
    have hfT := hrow.frozen 3
    have hai : (a : Int) < (N : Int) := by omega
    have hC : codeOf c < 4294967296 := by have := code_small (UInt8.ofNat c); simp at this; rw [Nat.mod_eq_of_lt hc] at this; omega
    have hbf := bit_fact (codeOf c) r hC
    have hb2 : codeOf c / 2 ^ r % 2 < 2 := Nat.mod_lt _ (by decide)
    by_cases hr0 : r = 0
    · subst hr0
      have hbf0 := bit_fact0 (codeOf c) hC
      have hk2 : k = lenOf c - 1 := by omega
      have HPL := Lib.hid (plantL_eq t T c a (by rw [← hk2]; exact HW.out))
      have hb3 : codeOf c % 2 < 2 := Nat.mod_lt _ (by decide)
      clear hbf hb2 o4 HS1 hC
      generalize codeOf c % 2 = b at hbf0 HPL hb3
      have hb3i : (b : Int) < 2 := by omega
      have hcell := tree_cell ht (a * 2 + b) (by omega) (by omega)
      have hfz := ht.frozenAt (a * 2 + b)
      have HT2 := Lib.hid (treeV_set ht hN (a * 2 + b) (-1 - c))
      have HR2 := Lib.hid (hrow.other g (a * 2 + b) hpg (.int .i64 (-1 - c)))
      have HN2 := Lib.hid (hn.setCell (q := ⟨g, a * 2 + b, none⟩) (.inr hg1) (.int .i64 (-1 - c)))
      go_wp2_with fail
      go_end0
      refine ⟨rfl, _, HR2.out, ?_, HN2.out, by simp; omega⟩
      rw [HPL.out, Nat.mul_comm 2 a]
      exact HT2.out
    · generalize codeOf c / 2 ^ r % 2 = b at hbf hb2 o4 HS1
      have hb2i : (b : Int) < 2 := by omega
      have hcell := tree_cell ht (a * 2 + b) (by omega) (by omega)
      rw [Nat.mul_comm 2 a] at o4
      generalize hV : T.getD (a * 2 + b) 0 = V at hcell o4
      by_cases hz : V = 0
      · rw [hz] at hcell hV
        have HS2 := Lib.hid (HS1.out.trans (stepL_zero hN hV))
        have hc1 : ∀ u ∈ [Value.int .i64 0, Value.int .i64 0], u.oneCell' = true := by intro u hu; simp at hu; subst hu; rfl
        have hc2 : N + 1 ≤ maxLen := by unfold maxLen; omega
        have hlow : B ≤ (wr.alloc (.cells #[Value.int .i64 0, Value.int .i64 0] 172)).heap.size := by simp; omega
        have hpl : p < wr.heap.size := hrow.lt
        go_wp2_with (at_builtin; refine wpList_append_lies _ rfl _ _ _ rfl B 172 i0 _ 2 16 Try.underlying167 HI.out HZ0.out HZ1.out HZ2.out rfl (by decide) (.slice (some ⟨g, 0, none⟩) N cap) N _ rfl (ht.alloc _) ⟨wr.heap.size, 0, none⟩ 1 1 [Value.int .i64 0, Value.int .i64 0] rfl rfl (cells_new wr [Value.int .i64 0, Value.int .i64 0] _) hc1 (by decide) hc2 (by omega) hlow (wr.heap.size + 1) (by simp) ?_; intro g3 cap3 w3 hown3 hg3 hat3 hlt3; have hR3 := hrow.step ((hg3.block p (by simp; omega) (fun e => hpg (Option.some.inj e))).trans (Below.heap_alloc wr _ p hpl)); have hcT3 := hR3.cell.2.2.2.1; have hfT3 := hR3.frozen 3)
        have hs3 : B ≤ w3.heap.size := Nat.le_trans hlow hg3.size
        have hg3B : B ≤ g3 := (hown3.lt g3 rfl).1
        have hpg3 : p ≠ g3 := by omega
        have hN3 := (hn.alloc hs (.cells #[.int .i64 0, .int .i64 0] 172)).grown hg3 hlow (fun q hq => (ht.lt q hq).1)
        clear hg3 hat3 hlow hc1 hc2 hcT hfT hcell
        have hR4 := hR3.setTree (.slice (some ⟨g3, 0, none⟩) (N + 1) cap3)
        have hown4 := hown3.kept (w' := w3.setCell ⟨p, 3, none⟩ (.slice (some ⟨g3, 0, none⟩) (N + 1) cap3)) (row := some p) ⟨rfl, rfl, rfl, by simp, fun k _ hk => Below.heap_setCell _ _ _ _ (fun e => hk (by simp [e]))⟩ (.inr (fun e => hpg3 (Option.some.inj e).symm))
        have hN4 := hN3.setCell (q := ⟨p, 3, none⟩) (.inl rfl) (.slice (some ⟨g3, 0, none⟩) (N + 1) cap3)
        have hs4 : B ≤ (w3.setCell ⟨p, 3, none⟩ (.slice (some ⟨g3, 0, none⟩) (N + 1) cap3)).heap.size := by simp; omega
        generalize w3.setCell ⟨p, 3, none⟩ (.slice (some ⟨g3, 0, none⟩) (N + 1) cap3) = w4 at hR4 hown4 hN4 hs4 ⊢
        clear hcT3 hfT3 hR3 hown3 hN3 hs3 hlt3
        have hown5 : w4.ownsRow B 172 2 (.slice (some ⟨g3, 0, none⟩) (N + 1) cap3) (N + 1) ((T ++ [0, 0]).map (Value.int .i64)) := by rw [List.map_append]; exact hown4
        have hcT := hR4.cell.2.2.2.1
        have hfT := hR4.frozen 3
        have hcell := tree_cell hown5 (a * 2 + b) (by omega) (by rw [List.length_append]; simp; omega)
        have hfz := hown5.frozenAt (a * 2 + b)
        have hai1 : (a : Int) < (N : Int) + 1 := by omega
        go_region
        go_wp2_with fail
        go_roundw
        case rel =>
          have hlen : (T ++ [0, 0]).length / 2 = N + 1 := by rw [List.length_append]; simp; omega
          refine ⟨_, k + 1, r - 1, by omega, by go_num, by rw [HS2.out], hR4.other g3 (a * 2 + b) hpg3 (.int .i64 N), ?_, (hN4.setCell (q := ⟨g3, a * 2 + b, none⟩) (.inr hg3B) (.int .i64 N)).drew, by simp; omega⟩
          rw [HS2.out]
          exact treeV_set hown5 hlen (a * 2 + b) N
        case measure => simp [intOf]; omega
      · have HS2 := Lib.hid (HS1.out.trans (stepL_some hV hz))
        go_wp2_with fail
        go_roundw
        case rel => exact ⟨_, k + 1, r - 1, by omega, by go_num, by rw [HS2.out]; go_num, hrow, by rw [HS2.out]; unfold TreeV; rw [hN]; exact ht, hn, hs⟩
        case measure => simp [intOf]; omega
end Go.Proofs.Yteceinojmdgmeaa


/- What (*huff.Coder).build does: the whole tree. -/
namespace Go.Proofs.Yteceinojmdgmeaa
open Go.RowKit
set_option linter.unusedVariables false
set_option linter.unusedSimpArgs false

/-- Two blocks hold the tables. -/
structure HasTwo (g gc : Nat) (W : World) : Prop where
  lens : W.heap[g]? = some (.cells (rowK .u8 lenL) 137 (0, 0))
  codes : W.heap[gc]? = some (.cells (rowK .u32 codeL) 139 (0, 0))
theorem HasTwo.lenCell {g gc : Nat} {W : World} (t : HasTwo g gc W) (c : Nat) (hc : c < 256) : W.cell? ⟨g, c, none⟩ = some (.int .u8 (lenOf c : Nat)) := cell_row t.lens c (by rw [lenL_len]; exact hc)
theorem HasTwo.codeCell {g gc : Nat} {W : World} (t : HasTwo g gc W) (c : Nat) (hc : c < 256) : W.cell? ⟨gc, c, none⟩ = some (.int .u32 (codeOf c : Nat)) := cell_row t.codes c (by rw [codeL_len]; exact hc)
theorem TreeV.step {W W' : World} {B : Nat} {tv : Value} {t : List Int} (h : TreeV W B tv t) (hk : ∀ k, B ≤ k → k < W.heap.size → W'.heap[k]? = W.heap[k]?) : TreeV W' B tv t := by
  refine ⟨h.1, h.2.imp id ?_⟩
  rintro ⟨g, cap, cur, h1, h2, h3, h4⟩
  exact ⟨g, cap, cur, h1, h2, (hk g h2 (Array.getElem?_eq_some_iff.1 h3).1).trans h3, h4⟩
def BuildPost (p : Nat) (d m bt : Int) (w : World) (e : Ending) (w' : World) : Prop :=
  e = .returned (.tuple #[]) ∧ ∃ tv, CRow p w' d m tv (bt + 1) ∧ TreeV w' w.heap.size tv treeL ∧ Near p w.heap.size w w'
set_option maxRecDepth 100000 in
set_option maxHeartbeats 600000 in
theorem build_any (p : Nat) (d m bt : Int) (hbt : 0 ≤ bt ∧ bt < 1000) (tv : Value) (w : World) (hrow : CRow p w d m tv bt) :
    Calls Try.prog 97 #[.pointer (some ⟨p, 0, none⟩)] w (BuildPost p d m bt w) := by
  have hpl := hrow.lt
  have HR := Lib.hid hrow
  clear hrow
  go_enter Try.func97, Try.ntmps97
  go_wp2_with fail
  refine (lengths_any _).mono ?_
  rintro e w1 ⟨rfl, hb1⟩
  have hL : HasLens w.heap.size w1.heap.size w ((w1.alloc (.cells (rowK .u8 z256) 137)).setRow w1.heap.size (rowK .u8 lenL)) :=
    ⟨setRow_heap _ _ _ _ _ _ (heap_alloc_new w1 _), below_setRow (hb1.alloc hb1.size _) hb1.size _, by have := hb1.size; simp; omega, by simp⟩
  have hg : w.heap.size ≤ w1.heap.size := hb1.size
  clear hb1
  go_wp2_with (first
    | (refine Great.wpList_allocTo rfl (some 2) rfl _ _ (alloc256b _ _ _ _ _ _ _) ?_)
    | (refine wpList_store_row rfl _ _ _ rfl w1.heap.size (rowK .u8 lenL) rfl rfl _ _ (heap_alloc_new w1 _) (by kernel_rfl) (by kernel_rfl) (by kernel_rfl) ?_; generalize (w1.alloc (.cells (rowK .u8 z256) 137)).setRow w1.heap.size (rowK .u8 lenL) = W1 at hL ⊢; generalize w1.heap.size = g at hL hg ⊢)
    | (refine wpList_load_row rfl 137 _ rfl g rfl 137 (rowK .u8 lenL) (0, 0) _ hL.row Try.underlying137 rfl (by kernel_rfl) ?_))
  refine (codes_any _).mono ?_
  rintro e w2 ⟨rfl, hb2⟩
  have hL2 := hL.step hb2
  clear hL hb2
  go_wp2_with (first
    | (refine Great.wpList_allocTo rfl (some 3) rfl _ _ (alloc256 _ _ _ _ _ _ _) ?_)
    | (refine wpList_store_row rfl _ _ _ rfl w2.heap.size (rowK .u32 codeL) rfl rfl _ _ (heap_alloc_new w2 _) (by kernel_rfl) (by kernel_rfl) (by kernel_rfl) ?_; have hcr : ((w2.alloc (.cells (rowK .u32 z256) 139)).setRow w2.heap.size (rowK .u32 codeL)).heap[w2.heap.size]? = some (.cells (rowK .u32 codeL) 139 (0, 0)) := setRow_heap _ _ _ _ _ _ (heap_alloc_new w2 _); have hL3 : HasLens w.heap.size g w ((w2.alloc (.cells (rowK .u32 z256) 139)).setRow w2.heap.size (rowK .u32 codeL)) := hL2.step (below_setRow ((Below.refl _ _).alloc (Nat.le_refl _) _) (Nat.le_refl _) _); have hgc : w2.heap.size < ((w2.alloc (.cells (rowK .u32 z256) 139)).setRow w2.heap.size (rowK .u32 codeL)).heap.size := (by simp); have hgc0 : w.heap.size ≤ w2.heap.size := hL2.base; generalize (w2.alloc (.cells (rowK .u32 z256) 139)).setRow w2.heap.size (rowK .u32 codeL) = W2 at hcr hL3 hgc ⊢; generalize w2.heap.size = gc at hcr hgc hgc0 ⊢; have hR1 : CRow p (W2.alloc (.cells #[.int .i64 0, .int .i64 0] 172)) d m tv bt := HR.out.step ((Below.heap_alloc W2 _ p (Nat.lt_of_lt_of_le hpl hL3.base)).trans (hL3.below.block p hpl)); have hcT := hR1.cell.2.2.2.1; have hfT := hR1.frozen 3))
  have HT2 : HasTwo g gc W2 := ⟨hL3.row, hcr⟩
  have hB2 := hL3.below
  have hs2 := hL3.base
  have hgl := hL3.lt
  clear hcr hL3 hL2 hcT hfT
  have hpW : p < W2.heap.size := Nat.lt_of_lt_of_le hpl hs2
  have hR3 := hR1.setTree (.slice (some ⟨W2.heap.size, 0, none⟩) 1 1)
  have hT3 : TreeV ((W2.alloc (.cells #[.int .i64 0, .int .i64 0] 172)).setCell ⟨p, 3, none⟩ (.slice (some ⟨W2.heap.size, 0, none⟩) 1 1)) W2.heap.size (.slice (some ⟨W2.heap.size, 0, none⟩) 1 1) (tSt 0) :=
    (World.ownsRow_lit W2 #[.int .i64 0, .int .i64 0] 1 (Nat.le_refl _) (by decide) rfl).kept (row := some p) ⟨rfl, rfl, rfl, by simp, fun k _ hk => Below.heap_setCell _ _ _ _ (fun e => hk (by simp [e]))⟩ (.inr (fun e => by have := Option.some.inj e; simp only at this; omega))
  have hN3 : Near p W2.heap.size W2 ((W2.alloc (.cells #[.int .i64 0, .int .i64 0] 172)).setCell ⟨p, 3, none⟩ (.slice (some ⟨W2.heap.size, 0, none⟩) 1 1)) := ((Near.refl p _ _).alloc (Nat.le_refl _) _).setCell (q := ⟨p, 3, none⟩) (.inl rfl) _
  generalize (W2.alloc (.cells #[.int .i64 0, .int .i64 0] 172)).setCell ⟨p, 3, none⟩ (.slice (some ⟨W2.heap.size, 0, none⟩) 1 1) = W3 at hR3 hT3 hN3 ⊢
  clear hR1
  go_loopw [4, 13] (fun _ i wr => ∃ (tv' : Value) (k : Nat), k ≤ 256 ∧ i = .int .i64 k ∧ CRow p wr d m tv' bt ∧ TreeV wr W2.heap.size tv' (tSt k) ∧ Near p W2.heap.size W2 wr) (fun _ i _ => 256 - (intOf i).toNat)
  case atStart => exact ⟨_, 0, by omega, rfl, hR3, hT3, hN3⟩
  case round =>
    obtain ⟨tv', k, hk, rfl, hrow, ht, hn⟩ := hrel
    by_cases hlt : k < 256
    · have hT : HasTwo g gc wr := ⟨(hn.block g hgl (by omega)).trans HT2.lens, (hn.block gc hgc (by omega)).trans HT2.codes⟩
      have hlc := hT.lenCell k hlt
      have hcc := hT.codeCell k hlt
      have hki : (k : Int) < 256 := by omega
      obtain ⟨n1, n2⟩ := len_range k hlt
      have hwl : IntKind.i64.wrap ((lenOf k : Nat) : Int) = (lenOf k : Nat) := IntWalk.i64_in _ (by omega)
      have HPK := Lib.hid (plant_ok k hlt)
      have HTS := Lib.hid (show tSt (k + 1) = plantL (tSt k) k from rfl)
      generalize tSt k = T at HPK HTS ht
      have HRW := Lib.hid (show CRow p wr.drew d m tv' bt from hrow)
      have HTV := Lib.hid (show TreeV wr.drew W2.heap.size tv' T from ht)
      have HNN := Lib.hid hn
      clear hrow ht hn
      go_wp2_with fail
      go_still_tail 9, (by kernel_rfl)
      go_wp2_with fail
      refine (plant_any p W2.heap.size hpW d m bt tv' T k hlt HPK.out wr.drew HNN.out.size HRW.out HTV.out).mono ?_
      rintro e w' ⟨rfl, tv2, hR5, hT5, hn5, hs5⟩
      have hn6 : Near p W2.heap.size W2 w' := HNN.out.drew.trans hn5
      have hT6 : TreeV w' W2.heap.size tv2 (tSt (k + 1)) := HTS.out ▸ hT5
      clear hn5 hT5 HNN HTV HRW HPK HTS
      go_wp2_with fail
      go_roundw
      · refine ⟨tv2, k + 1, by omega, ?_, hR5, hT6, hn6⟩
        simp
      · simp [intOf]; omega
    · obtain rfl : k = 256 := by omega
      rw [tSt_end] at ht
      have hc4 := hrow.cell.2.2.2.2
      have hf4 := hrow.frozen 4
      have hb1 : IntKind.i64.wrap (bt + 1) = bt + 1 := IntWalk.i64_in _ (by omega)
      have hR6 : CRow p (wr.setCell ⟨p, 4, none⟩ (.int .i64 (bt + 1))) d m tv' (bt + 1) := heap_setCell_same wr p 4 _ _ (.int .i64 (bt + 1)) hrow
      have hT6 : TreeV (wr.setCell ⟨p, 4, none⟩ (.int .i64 (bt + 1))) w.heap.size tv' treeL := World.ownsRow.mono (ht.step (fun k hk _ => Below.heap_setCell _ _ _ _ (fun e => by simp only at e; omega))) hs2
      have hn6 : Near p w.heap.size w (wr.setCell ⟨p, 4, none⟩ (.int .i64 (bt + 1))) := ((Near.of hB2).trans (hn.mono hs2)).setCell (q := ⟨p, 4, none⟩) (.inl rfl) _
      clear hrow ht hn
      go_wp2_with fail
      go_end0
      exact ⟨rfl, tv', hR6, hT6, hn6⟩
end Go.Proofs.Yteceinojmdgmeaa

