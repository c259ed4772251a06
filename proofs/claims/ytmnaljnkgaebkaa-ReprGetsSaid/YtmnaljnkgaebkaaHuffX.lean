/- What (*huff.Coder).build does: the whole tree. -/
import Derived.Test.YtmnaljnkgaebkaaHuffV
import Derived.StillTailTactics
namespace Go.Proofs.Ytmnaljnkgaebkaa
open Go.RowKit
set_option linter.unusedVariables false
set_option linter.unusedSimpArgs false

/-- Two blocks hold the tables. -/
structure HasTwo (g gc : Nat) (W : World) : Prop where
  lens : W.heap[g]? = some (.cells (rowK .u8 lenL) 99 (0, 0))
  codes : W.heap[gc]? = some (.cells (rowK .u32 codeL) 101 (0, 0))
theorem HasTwo.lenCell {g gc : Nat} {W : World} (t : HasTwo g gc W) (c : Nat) (hc : c < 256) : W.cell? ⟨g, c, none⟩ = some (.int .u8 (lenOf c : Nat)) := cell_row t.lens c (by rw [lenL_len]; exact hc)
theorem HasTwo.codeCell {g gc : Nat} {W : World} (t : HasTwo g gc W) (c : Nat) (hc : c < 256) : W.cell? ⟨gc, c, none⟩ = some (.int .u32 (codeOf c : Nat)) := cell_row t.codes c (by rw [codeL_len]; exact hc)
theorem TreeV.step {W W' : World} {B : Nat} {tv : Value} {t : List Int} (h : TreeV W B tv t) (hk : ∀ k, B ≤ k → k < W.heap.size → W'.heap[k]? = W.heap[k]?) : TreeV W' B tv t := by
  refine ⟨h.1, h.2.imp id ?_⟩
  rintro ⟨g, cap, cur, h1, h2, h3, h4⟩
  exact ⟨g, cap, cur, h1, h2, (hk g h2 (Array.getElem?_eq_some_iff.1 h3).1).trans h3, h4⟩
def BuildPost (p : Nat) (d m bt : Int) (w : World) (e : Ending) (w' : World) : Prop :=
  e = .returned (.tuple #[]) ∧ ∃ tv, CRow p w' d m tv (bt + 1) ∧ TreeV w' w.heap.size tv treeL ∧ Near p w.heap.size w w'
set_option maxRecDepth 100000 in
set_option maxHeartbeats 600000 in
theorem build_any (p : Nat) (d m bt : Int) (hbt : 0 ≤ bt ∧ bt < 1000) (tv : Value) (w : World) (hrow : CRow p w d m tv bt) :
    Calls Try.prog 60 #[.pointer (some ⟨p, 0, none⟩)] w (BuildPost p d m bt w) := by
  have hpl := hrow.lt
  have HR := Lib.hid hrow
  clear hrow
  go_enter Try.func60, Try.ntmps60
  go_wp2_with fail
  refine (lengths_any _).mono ?_
  rintro e w1 ⟨rfl, hb1⟩
  have hL : HasLens w.heap.size w1.heap.size w ((w1.alloc (.cells (rowK .u8 z256) 99)).setRow w1.heap.size (rowK .u8 lenL)) :=
    ⟨setRow_heap _ _ _ _ _ _ (heap_alloc_new w1 _), below_setRow (hb1.alloc hb1.size _) hb1.size _, by have := hb1.size; simp; omega, by simp⟩
  have hg : w.heap.size ≤ w1.heap.size := hb1.size
  clear hb1
  go_wp2_with (first
    | (refine Great.wpList_allocTo rfl (some 2) rfl _ _ (alloc256b _ _ _ _ _ _ _) ?_)
    | (refine wpList_store_row rfl _ _ _ rfl w1.heap.size (rowK .u8 lenL) rfl rfl _ _ (heap_alloc_new w1 _) (by kernel_rfl) (by kernel_rfl) (by kernel_rfl) ?_; generalize (w1.alloc (.cells (rowK .u8 z256) 99)).setRow w1.heap.size (rowK .u8 lenL) = W1 at hL ⊢; generalize w1.heap.size = g at hL hg ⊢)
    | (refine wpList_load_row rfl 99 _ rfl g rfl 99 (rowK .u8 lenL) (0, 0) _ hL.row Try.underlying99 rfl (by kernel_rfl) ?_))
  refine (codes_any _).mono ?_
  rintro e w2 ⟨rfl, hb2⟩
  have hL2 := hL.step hb2
  clear hL hb2
  go_wp2_with (first
    | (refine Great.wpList_allocTo rfl (some 3) rfl _ _ (alloc256 _ _ _ _ _ _ _) ?_)
    | (refine wpList_store_row rfl _ _ _ rfl w2.heap.size (rowK .u32 codeL) rfl rfl _ _ (heap_alloc_new w2 _) (by kernel_rfl) (by kernel_rfl) (by kernel_rfl) ?_; have hcr : ((w2.alloc (.cells (rowK .u32 z256) 101)).setRow w2.heap.size (rowK .u32 codeL)).heap[w2.heap.size]? = some (.cells (rowK .u32 codeL) 101 (0, 0)) := setRow_heap _ _ _ _ _ _ (heap_alloc_new w2 _); have hL3 : HasLens w.heap.size g w ((w2.alloc (.cells (rowK .u32 z256) 101)).setRow w2.heap.size (rowK .u32 codeL)) := hL2.step (below_setRow ((Below.refl _ _).alloc (Nat.le_refl _) _) (Nat.le_refl _) _); have hgc : w2.heap.size < ((w2.alloc (.cells (rowK .u32 z256) 101)).setRow w2.heap.size (rowK .u32 codeL)).heap.size := (by simp); have hgc0 : w.heap.size ≤ w2.heap.size := hL2.base; generalize (w2.alloc (.cells (rowK .u32 z256) 101)).setRow w2.heap.size (rowK .u32 codeL) = W2 at hcr hL3 hgc ⊢; generalize w2.heap.size = gc at hcr hgc hgc0 ⊢; have hR1 : CRow p (W2.alloc (.cells #[.int .i64 0, .int .i64 0] 120)) d m tv bt := HR.out.step ((Below.heap_alloc W2 _ p (Nat.lt_of_lt_of_le hpl hL3.base)).trans (hL3.below.block p hpl)); have hcT := hR1.cell.2.2.2.1; have hfT := hR1.frozen 3))
  have HT2 : HasTwo g gc W2 := ⟨hL3.row, hcr⟩
  have hB2 := hL3.below
  have hs2 := hL3.base
  have hgl := hL3.lt
  clear hcr hL3 hL2 hcT hfT
  have hpW : p < W2.heap.size := Nat.lt_of_lt_of_le hpl hs2
  have hR3 := hR1.setTree (.slice (some ⟨W2.heap.size, 0, none⟩) 1 1)
  have hT3 : TreeV ((W2.alloc (.cells #[.int .i64 0, .int .i64 0] 120)).setCell ⟨p, 3, none⟩ (.slice (some ⟨W2.heap.size, 0, none⟩) 1 1)) W2.heap.size (.slice (some ⟨W2.heap.size, 0, none⟩) 1 1) (tSt 0) :=
    (World.ownsRow_lit W2 #[.int .i64 0, .int .i64 0] 1 (Nat.le_refl _) (by decide) rfl).kept (row := some p) ⟨rfl, rfl, rfl, by simp, fun k _ hk => Below.heap_setCell _ _ _ _ (fun e => hk (by simp [e]))⟩ (.inr (fun e => by have := Option.some.inj e; simp only at this; omega))
  have hN3 : Near p W2.heap.size W2 ((W2.alloc (.cells #[.int .i64 0, .int .i64 0] 120)).setCell ⟨p, 3, none⟩ (.slice (some ⟨W2.heap.size, 0, none⟩) 1 1)) := ((Near.refl p _ _).alloc (Nat.le_refl _) _).setCell (q := ⟨p, 3, none⟩) (.inl rfl) _
  generalize (W2.alloc (.cells #[.int .i64 0, .int .i64 0] 120)).setCell ⟨p, 3, none⟩ (.slice (some ⟨W2.heap.size, 0, none⟩) 1 1) = W3 at hR3 hT3 hN3 ⊢
  clear hR1
  go_loopw [4, 13] (fun _ i wr => ∃ (tv' : Value) (k : Nat), k ≤ 256 ∧ i = .int .i64 k ∧ CRow p wr d m tv' bt ∧ TreeV wr W2.heap.size tv' (tSt k) ∧ Near p W2.heap.size W2 wr) (fun _ i _ => 256 - (intOf i).toNat)
  case atStart => exact ⟨_, 0, by omega, rfl, hR3, hT3, hN3⟩
  case round =>
    obtain ⟨tv', k, hk, rfl, hrow, ht, hn⟩ := hrel
    by_cases hlt : k < 256
    · have hT : HasTwo g gc wr := ⟨(hn.block g hgl (by omega)).trans HT2.lens, (hn.block gc hgc (by omega)).trans HT2.codes⟩
      have hlc := hT.lenCell k hlt
      have hcc := hT.codeCell k hlt
      have hki : (k : Int) < 256 := by omega
      obtain ⟨n1, n2⟩ := len_range k hlt
      have hwl : IntKind.i64.wrap ((lenOf k : Nat) : Int) = (lenOf k : Nat) := IntWalk.i64_in _ (by omega)
      have HPK := Lib.hid (plant_ok k hlt)
      have HTS := Lib.hid (show tSt (k + 1) = plantL (tSt k) k from rfl)
      generalize tSt k = T at HPK HTS ht
      have HRW := Lib.hid (show CRow p wr.drew d m tv' bt from hrow)
      have HTV := Lib.hid (show TreeV wr.drew W2.heap.size tv' T from ht)
      have HNN := Lib.hid hn
      clear hrow ht hn
      go_wp2_with fail
      go_still_tail 9, (by kernel_rfl)
      go_wp2_with fail
      refine (plant_any p W2.heap.size hpW d m bt tv' T k hlt HPK.out wr.drew HNN.out.size HRW.out HTV.out).mono ?_
      rintro e w' ⟨rfl, tv2, hR5, hT5, hn5, hs5⟩
      have hn6 : Near p W2.heap.size W2 w' := HNN.out.drew.trans hn5
      have hT6 : TreeV w' W2.heap.size tv2 (tSt (k + 1)) := HTS.out ▸ hT5
      clear hn5 hT5 HNN HTV HRW HPK HTS
      go_wp2_with fail
      go_roundw
      · refine ⟨tv2, k + 1, by omega, ?_, hR5, hT6, hn6⟩
        simp
      · simp [intOf]; omega
    · obtain rfl : k = 256 := by omega
      rw [tSt_end] at ht
      have hc4 := hrow.cell.2.2.2.2
      have hf4 := hrow.frozen 4
      have hb1 : IntKind.i64.wrap (bt + 1) = bt + 1 := IntWalk.i64_in _ (by omega)
      have hR6 : CRow p (wr.setCell ⟨p, 4, none⟩ (.int .i64 (bt + 1))) d m tv' (bt + 1) := heap_setCell_same wr p 4 _ _ (.int .i64 (bt + 1)) hrow
      have hT6 : TreeV (wr.setCell ⟨p, 4, none⟩ (.int .i64 (bt + 1))) w.heap.size tv' treeL := World.ownsRow.mono (ht.step (fun k hk _ => Below.heap_setCell _ _ _ _ (fun e => by simp only at e; omega))) hs2
      have hn6 : Near p w.heap.size w (wr.setCell ⟨p, 4, none⟩ (.int .i64 (bt + 1))) := ((Near.of hB2).trans (hn.mono hs2)).setCell (q := ⟨p, 4, none⟩) (.inl rfl) _
      clear hrow ht hn
      go_wp2_with fail
      go_end0
      exact ⟨rfl, tv', hR6, hT6, hn6⟩
end Go.Proofs.Ytmnaljnkgaebkaa
