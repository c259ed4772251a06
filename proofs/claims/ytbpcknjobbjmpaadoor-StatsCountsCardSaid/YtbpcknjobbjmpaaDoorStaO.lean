/- The document's sizes and lines. -/
import Derived.Test.YtbpcknjobbjmpaaDoorStaN
namespace Go.Proofs.YtbpcknjobbjmpaaDoor
open Go.RowKit
set_option linter.unusedVariables false
set_option linter.unusedSimpArgs false

theorem hst_take (j : Nat) (V : List Fat) (k : Nat) (f : Fat) (h : V[k]? = some f) : hst j (V.take (k + 1)) = if szI f.n = j then hst j (V.take k) + 1 else hst j (V.take k) := by
  have : V.take (k + 1) = V.take k ++ [f] := by rw [List.take_add_one, h]; rfl
  rw [this, hst_snoc]
def DHistPost (V : List Fat) (w : World) (e : Ending) (w' : World) : Prop := ∃ v, e = .returned v ∧ Twelve w' w.heap.size v (fun j => hst j V) ∧ Below w.heap.size w w'
set_option maxRecDepth 100000 in
set_option maxHeartbeats 4000000 in
theorem dhist_any (oa : Option Addr) (n cap : Nat) (V : List Fat) (hn : V.length = n) (hl : n ≤ 100) (hok : ∀ f ∈ V, f.ok = true) (w : World) (hf : FatesN w oa V) :
    Calls Tryd.prog 18 #[.slice oa n cap] w (DHistPost V w) := by
  obtain ⟨i0, hi0, hz0, hz1, hz2⟩ := info_parts int_info
  have hmk := run_make (P := Tryd.prog) w 41 3 i0 _ Tryd.underlying41 hi0 hz0 .i64 .i64 12 12 (by omega) (Int.le_refl _) (by rw [hz2]; decide) (by decide)
  rw [hz1] at hmk
  have har : madeCells (Value.int IntKind.i64 0).cells (Int.toNat 12 * 1) = nrow 12 (fun _ => 0) := by kernel_rfl
  rw [har] at hmk
  have t12 : Int.toNat 12 = 12 := rfl
  rw [t12] at hmk
  clear har hi0 hz0 hz1 hz2
  have HR0 := Lib.hid (show (w.alloc (.cells (nrow 12 (fun _ => 0)) 3)).heap[w.heap.size]? = some (.cells (nrow 12 (fun _ => 0)) 3 (0, 0)) from heap_alloc_new w _)
  have HB0 := Lib.hid ((Below.refl w.heap.size w).alloc (Nat.le_refl _) (.cells (nrow 12 (fun _ => 0)) 3))
  have HF := Lib.hid hf
  have HOK := Lib.hid hok
  clear hf hok
  go_enter Tryd.func18, Tryd.ntmps18
  go_wp2_with fail
  generalize hg0 : w.heap.size = g at HR0 ⊢
  generalize w.alloc (.cells (nrow 12 (fun _ => 0)) 3) = w1 at HR0 HB0 ⊢
  have HG := Lib.hid hg0
  clear hmk hg0
  go_loopw [4] (fun ii wr => ∃ k : Nat, ii = .int .i64 k ∧ k ≤ n ∧ wr.heap[g]? = some (.cells (nrow 12 (fun j => hst j (V.take k))) 3 (0, 0)) ∧ Below w.heap.size w wr) (fun ii _ => n - (intOf ii).toNat)
  case atStart => exact ⟨0, rfl, by omega, HR0.out, HB0.out⟩
  case round =>
    obtain ⟨k, rfl, hk, hrow, hb⟩ := hrel
    have HRW := Lib.hid hrow
    have HBW := Lib.hid hb
    clear hrow hb
    by_cases hlt : k < n
    · have q4 : decide ((k : Int) < (n : Int)) = true := decide_eq_true (by omega)
      have q5 : (k : Int) < (n : Int) := by omega
      have hw5 : IntKind.i64.wrap ((k : Int) + 1) = (k : Int) + 1 := IntWalk.i64_in _ (by omega)
      obtain ⟨f, hfk⟩ : ∃ f, V[k]? = some f := ⟨V[k]'(by omega), List.getElem?_eq_getElem _⟩
      have hfok := (f.ok_iff).1 (HOK.out f (List.mem_of_getElem? hfk))
      obtain ⟨b, o, rfl, c1, c2, c3, c4⟩ := (HF.out.below HBW.out) k f hfk
      have CZ := Lib.hid (dsize_any f.n (i64_wf (by omega) (by omega)))
      have hz12 := szI_lt f.n
      have hstep := fun j => hst_take j V k f hfk
      have hbd := hst_bound (szI f.n) (V.take k)
      have hlen : (V.take k).length ≤ 100 := by rw [List.length_take]; omega
      generalize szI f.n = z at *
      have hz12' : (z : Int) < 12 := by omega
      have hc := (cell_of_row wr g z _ _ _ HRW.out).trans (nrow_at 12 _ z hz12)
      have hz := frozen_of_row wr g z _ _ HRW.out
      have hrn := heap_setCell_same wr g z _ _ (.int .i64 (hst z (V.take k) + 1)) HRW.out
      rw [nrow_set] at hrn
      rw [nrow_cong 12 (A' := fun j => hst j (V.take (k + 1))) (fun j _ => by
        unfold upd
        dsimp only
        rw [hstep j]
        by_cases e : j = z
        · subst e; rw [if_pos rfl]
        · rw [if_neg e, if_neg (fun h => e h.symm)])] at hrn
      have hw6 : IntKind.i64.wrap (hst z (V.take k) + 1) = hst z (V.take k) + 1 := IntWalk.i64_in _ (by omega)
      have HRN := Lib.hid hrn
      have HBN := Lib.hid (HBW.out.setCell (show w.heap.size ≤ (⟨g, z, none⟩ : Addr).block from Nat.le_of_eq HG.out) (.int .i64 (hst z (V.take k) + 1)))
      clear hrn hstep
      generalize hst z (V.take k) = x at *
      go_wp2_with (first
        | (go_at_call 26; refine (CZ.out _).mono ?_; rintro e w' ⟨rfl, rfl⟩))
      refine ⟨⟨k + 1, rfl, hlt, HRN.out, HBN.out⟩, ?_⟩
      simp [intOf]
      omega
    · have q4 : decide ((k : Int) < (n : Int)) = false := decide_eq_false (by omega)
      have q5 : ¬ (k : Int) < (n : Int) := by omega
      obtain rfl : k = n := by omega
      have hall : V.take k = V := by rw [List.take_of_length_le (by omega)]
      rw [hall] at HRW
      go_wp2_with fail
      go_ret
      exact ⟨_, rfl, ⟨g, rfl, HRW.out, Nat.le_of_eq HG.out⟩, HBW.out⟩
def DLinesPost (V : List Fat) (w : World) (e : Ending) (w' : World) : Prop := ∃ v, e = .returned v ∧ OwnS w' w.heap.size v (linesL (dnat V) 5) ∧ Below w.heap.size w w'
set_option maxRecDepth 100000 in
set_option maxHeartbeats 20000000 in
theorem dlines_any (oa : Option Addr) (n cap : Nat) (V : List Fat) (hn : V.length = n) (hl : n ≤ 100) (hok : ∀ f ∈ V, f.ok = true) (w : World) (hf : FatesN w oa V) :
    Calls Tryd.prog 23 #[.slice oa n cap] w (DLinesPost V w) := by
  obtain ⟨i0, hi0, hz0, hz1, hz2⟩ := info_parts string_info
  have HI := Lib.hid hi0
  have HZ0 := Lib.hid hz0
  have HZ1 := Lib.hid hz1
  have HZ2 := Lib.hid hz2
  clear hi0 hz0 hz1 hz2
  have HRN := Lib.hid (heap_alloc_new w (.cells nameRow 9))
  have HB0 := Lib.hid ((Below.refl w.heap.size w).alloc (Nat.le_refl _) (.cells nameRow 9))
  have hlt0 : w.heap.size < (w.alloc (.cells nameRow 9)).heap.size := by simp
  unfold nameRow nameS at HRN HB0 hlt0
  have HF := Lib.hid hf
  clear hf
  go_enter Tryd.func23, Tryd.ntmps23
  go_wp2_with fail
  generalize hw1 : w.alloc _ = w1 at HRN HB0 hlt0 ⊢
  have HG1 := Lib.hid (show w1.heap[w.heap.size]? = some (.cells nameRow 9 (0, 0)) from HRN.out)
  clear hw1 HRN
  go_loopw [4, 5] (fun out ii wr => ∃ (k : Nat), ii = .int .i64 k ∧ k ≤ 5 ∧ OwnS wr w1.heap.size out (linesL (dnat V) k) ∧ Below w1.heap.size w1 wr) (fun _ ii _ => 5 - (intOf ii).toNat)
  case atStart => exact ⟨0, rfl, by omega, OwnS.nil _ _, Below.refl _ _⟩
  case round =>
    obtain ⟨k, rfl, hk, hown, hb⟩ := hrel
    have HO := Lib.hid hown
    have HB := Lib.hid hb
    clear hown hb
    by_cases hlt : k < 5
    · have q4 : decide ((k : Int) < 5) = true := decide_eq_true (by omega)
      have q5 : (k : Int) < 5 := by omega
      have hw5 : IntKind.i64.wrap ((k : Int) + 1) = (k : Int) + 1 := IntWalk.i64_in _ (by omega)
      have hcg := (cell_of_row wr w.heap.size k _ _ _ ((HB.out.block w.heap.size hlt0).trans HG1.out)).trans (nameRow_at k hlt)
      have hbd := dofT_bound V (k : Int) hok
      obtain ⟨x, hx⟩ : ∃ x : Nat, (dofT V (k : Int)).n = x := ⟨((dofT V (k : Int)).n).toNat, by omega⟩
      obtain ⟨y, hy⟩ : ∃ y : Nat, (dofT V (k : Int)).c = y := ⟨((dofT V (k : Int)).c).toNat, by omega⟩
      have hxb : x ≤ 4294967295 := by omega
      have hyb : y ≤ 4294967295 := by omega
      have HL := Lib.hid (show linesL (dnat V) (k + 1) = linesL (dnat V) k ++ [lineS k x y] from by rw [linesL_succ]; unfold dnat; rw [hx, hy, Int.toNat_natCast, Int.toNat_natCast])
      have OF := Lib.hid (dof_any oa n cap V hn hl hok (k : Int) wr (HF.out.below (HB0.out.trans (HB.out.mono HB0.out.size))))
      unfold Tal.val at OF
      rw [hx, hy] at OF
      generalize (dofT V (k : Int)).m = mm at OF
      have hns : (nameS k).size ≤ 6 := by
        have : k = 0 ∨ k = 1 ∨ k = 2 ∨ k = 3 ∨ k = 4 := by omega
        rcases this with rfl | rfl | rfl | rfl | rfl <;> decide
      have hsx := decS_size x hxb
      have hsy := decS_size y hyb
      have HLL := Lib.hid (linesL_len (dnat V) k)
      clear hx hy hbd
      unfold lineS spS at HL
      have I1 := Lib.hid (fun W => show_any x hxb W)
      have I2 := Lib.hid (fun W => show_any y hyb W)
      generalize nameS k = N at hns hcg HL
      generalize decS x = X at hsx HL I1
      generalize decS y = Y at hsy HL I2
      have f1 : ¬ (9223372036854775807 < N.size + 1) := by omega
      have f2 : ¬ (9223372036854775807 < N.size + 1 + X.size) := by omega
      have f3 : ¬ (9223372036854775807 < N.size + 1 + X.size + 1) := by omega
      have f4 : ¬ (9223372036854775807 < N.size + 1 + X.size + 1 + Y.size) := by omega
      have g1 : ¬ (9223372036854775807 < N.size + (⟨#[32]⟩ : ByteArray).size) := f1
      have g2 : ¬ (9223372036854775807 < (N ++ ⟨#[32]⟩).size + X.size) := by rw [ByteArray.size_append]; exact f2
      have g3 : ¬ (9223372036854775807 < (N ++ ⟨#[32]⟩ ++ X).size + (⟨#[32]⟩ : ByteArray).size) := by rw [ByteArray.size_append, ByteArray.size_append]; exact f3
      have g4 : ¬ (9223372036854775807 < (N ++ ⟨#[32]⟩ ++ X ++ ⟨#[32]⟩).size + Y.size) := by rw [ByteArray.size_append, ByteArray.size_append, ByteArray.size_append]; exact f4
      have HONE := Lib.hid (show ∀ s : ByteArray, ∀ u ∈ [Value.string s], u.oneCell' = true from fun s u hu => by simp at hu; subst hu; rfl)
      have HCG := Lib.hid hcg
      clear hcg
      go_wp2_with (first
        | (go_at_call 12; refine OF.out.mono ?_; rintro e w2 ⟨rfl, hb2⟩; have HB2 := Lib.hid hb2; clear hb2))
      have hb3 := HB2.out.alloc HB2.out.size (.cells #[.int .i64 x, .int .i64 y, .int .i64 mm] 34)
      have hrow3 := heap_alloc_new w2 (.cells #[.int .i64 x, .int .i64 y, .int .i64 mm] 34)
      have hb2w : wr.heap.size ≤ w2.heap.size := HB2.out.size
      generalize hbb : w2.heap.size = b2 at hrow3 hb2w ⊢
      generalize w2.alloc (.cells #[.int .i64 x, .int .i64 y, .int .i64 mm] 34) = w3 at hb3 hrow3 ⊢
      have HC := Lib.hid (show ∀ W : World, W.heap[b2]? = w3.heap[b2]? → W.heap[w.heap.size]? = w3.heap[w.heap.size]? → W.cell? ⟨w.heap.size, k, none⟩ = some (.string N) ∧ W.cell? ⟨b2, 0, none⟩ = some (.int .i64 x) ∧ W.cell? ⟨b2, 1, none⟩ = some (.int .i64 y) from fun W hW hW2 => ⟨(cell_eq (a := ⟨w.heap.size, k, none⟩) (hW2.trans (hb3.block w.heap.size (Nat.lt_of_lt_of_le hlt0 HB.out.size)))).trans HCG.out, (res3 (hW.trans hrow3)).1.1, (res3 (hW.trans hrow3)).1.2.1⟩)
      have hlt3 : b2 < w3.heap.size := (Array.getElem?_eq_some_iff.1 hrow3).1
      have HO3 := Lib.hid (HO.out.below hb3)
      have HB3 := Lib.hid (HB.out.trans (hb3.mono HB.out.size))
      have hs13 : w1.heap.size ≤ w3.heap.size := HB3.out.size
      have hlt03 : w.heap.size < w3.heap.size := Nat.lt_of_lt_of_le hlt0 hs13
      have HROW := Lib.hid (show ∀ q, u4.ownBlock = some q → w1.heap.size ≤ q ∧ q < wr.heap.size from fun q hq => World.ownsRow.lt HO.out q hq)
      have HBN := (Below.refl w3.heap.size w3).drew
      clear hb3 hrow3 hbb
      go_region_held3 (fun W => W.cell? ⟨w.heap.size, k, none⟩ = some (.string N) ∧ W.cell? ⟨b2, 0, none⟩ = some (.int .i64 x) ∧ W.cell? ⟨b2, 1, none⟩ = some (.int .i64 y)) (first | exact HS5 | exact HC.out _ (HBN.block b2 hlt3) (HBN.block w.heap.size hlt03) | exact HC.out _ ((HBN.alloc HBN.size _).block b2 hlt3) ((HBN.alloc HBN.size _).block w.heap.size hlt03)) (first
        | (go_at_call 46; first
            | ((with_reducible refine (I1.out _).mono ?_); rintro e w4 ⟨rfl, hb⟩; have HBN := HBN.trans (hb.mono HBN.size); clear hb)
            | ((with_reducible refine (I2.out _).mono ?_); rintro e w4 ⟨rfl, hb⟩; have HBN := HBN.trans (hb.mono HBN.size); clear hb))
        | (refine step_append_lies _ (by rfl) _ _ _ (by rfl) w1.heap.size 9 i0 _ 1 16 Tryd.underlying47 HI.out HZ0.out HZ1.out HZ2.out rfl (by decide) u4 _ _ (by rfl) (World.ownsRow.alloc (HO3.out.below HBN) _) ⟨w4.heap.size, 0, none⟩ 1 1 [Value.string (N ++ ⟨#[32]⟩ ++ X ++ ⟨#[32]⟩ ++ Y)] (by rfl) rfl (cells_new _ [Value.string (N ++ ⟨#[32]⟩ ++ X ++ ⟨#[32]⟩ ++ Y)] _) (HONE.out _) (by decide) (by rw [HLL.out]; unfold maxLen; omega) (by rw [HLL.out]; omega) (by have := HBN.size; simp; omega) (w4.heap.size + 1) (by simp) ?_; intro gg cap w5 hown hgrow hat hlt5; have HO5 := OwnS.snoc hown; have HB5 := ((HB3.out.trans (HBN.mono hs13)).alloc (Nat.le_trans hs13 HBN.size) _).grown hgrow (by have := HBN.size; simp; omega) (fun q hq => (HROW.out q hq).1); have HS5 := HC.out w5 ((hgrow.block b2 (by have := HBN.size; simp; omega) (by intro e; have := (HROW.out b2 e.symm).2; omega)).trans ((HBN.alloc HBN.size _).block b2 hlt3)) ((hgrow.block w.heap.size (by have := HBN.size; simp; omega) (by intro e; have := (HROW.out w.heap.size e.symm).1; omega)).trans ((HBN.alloc HBN.size _).block w.heap.size hlt03))))
      all_goals (
        go_wp2_with fail
        refine ⟨⟨k + 1, rfl, hlt, by rw [HL.out]; exact HO5, HB5⟩, ?_⟩
        simp [intOf]
        omega)
    · have q4 : decide ((k : Int) < 5) = false := decide_eq_false (by omega)
      have q5 : ¬ (k : Int) < 5 := by omega
      obtain rfl : k = 5 := by omega
      go_wp2_with fail
      go_ret
      exact ⟨_, rfl, HO.out.mono HB0.out.size, HB0.out.trans (HB.out.mono HB0.out.size)⟩
end Go.Proofs.YtbpcknjobbjmpaaDoor
