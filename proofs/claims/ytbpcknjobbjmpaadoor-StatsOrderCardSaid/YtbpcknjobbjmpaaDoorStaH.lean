/- Lines of text in memory; the board's lines. -/
import Derived.Test.YtbpcknjobbjmpaaDoorStaG
import Derived.Deep.RegionHeld3
import Derived.Deep.AppendLies
namespace Go.Proofs.YtbpcknjobbjmpaaDoor
open Go.RowKit
set_option linter.unusedVariables false
set_option linter.unusedSimpArgs false

/-- Texts in memory. -/
def StrsN (W : World) (oa : Option Addr) (L : List ByteArray) : Prop := ∀ i s, L[i]? = some s → ∃ a, oa = some a ∧ W.cell? (a.add i) = some (.string s)
theorem StrsN.below {W W' : World} {oa : Option Addr} {L : List ByteArray} (h : StrsN W oa L) (hn : Below W.heap.size W W') : StrsN W' oa L := by
  intro i s hi
  obtain ⟨a, ha, hc⟩ := h i s hi
  exact ⟨a, ha, (cell_eq (hn.block _ (World.block_lt_of_cell? _ _ hc))).trans hc⟩
def OwnS (w : World) (base : Nat) (v : Value) (L : List ByteArray) : Prop := w.ownsRow base 9 1 v L.length (L.map Value.string)
theorem string_info : (Tryd.prog.info? 9).map (fun i => (i.zero, i.size, i.bytes)) = some (some (.string ⟨#[]⟩), 1, 16) := by kernel_rfl
theorem OwnS.below {w w' : World} {B : Nat} {v : Value} {L : List ByteArray} (h : OwnS w B v L) (hb : Below w.heap.size w w') : OwnS w' B v L := owns_below h hb
theorem OwnS.mono {w : World} {B B' : Nat} {v : Value} {L : List ByteArray} (h : OwnS w B v L) (hb : B' ≤ B) : OwnS w B' v L := World.ownsRow.mono h hb
theorem OwnS.nil (w : World) (B : Nat) : OwnS w B (.slice none 0 0) [] := ⟨rfl, .inl ⟨rfl, rfl⟩⟩
theorem OwnS.form {w : World} {B : Nat} {v : Value} {L : List ByteArray} (h : OwnS w B v L) : ∃ oa cap, v = .slice oa L.length cap ∧ StrsN w oa L := by
  rcases h.2 with ⟨rfl, h0⟩ | ⟨g, cap, cur, rfl, hb, hg, hn, hm, hs, ht⟩
  · exact ⟨none, 0, by rw [h0], fun i s hi => by rw [List.length_eq_zero_iff.1 h0] at hi; simp at hi⟩
  · refine ⟨some ⟨g, 0, none⟩, cap, rfl, fun i s hi => ⟨_, rfl, ?_⟩⟩
    exact World.ownsRow.cells h rfl i _ (by rw [List.getElem?_map, hi]; rfl)
theorem OwnS.snoc {w : World} {B : Nat} {v : Value} {L : List ByteArray} {s : ByteArray} (h : w.ownsRow B 9 1 v (L.length + 1) (L.map Value.string ++ [Value.string s])) : OwnS w B v (L ++ [s]) := by
  unfold OwnS
  rw [List.length_append, List.map_append]
  exact h
/-- The table of powers stands, and lies below B. -/
def TabB (B : Nat) (w : World) : Prop := ∃ w0 : World, Tab w0 ∧ w0.heap.size ≤ B ∧ Below w0.heap.size w0 w
theorem TabB.tab {B : Nat} {w : World} (h : TabB B w) : Tab w := by obtain ⟨w0, h1, _, h3⟩ := h; exact h1.below h3
theorem TabB.of {w W : World} (h : Tab w) (hb : Below w.heap.size w W) : TabB w.heap.size W := ⟨w, h, Nat.le_refl _, hb⟩
theorem TabB.step {B : Nat} {w W : World} (h : TabB B w) (hb : Below B w W) : TabB B W := by
  obtain ⟨w0, h1, h2, h3⟩ := h
  exact ⟨w0, h1, h2, h3.trans (hb.mono h2)⟩
theorem TabB.mono {B C : Nat} {w : World} (h : TabB B w) (hc : B ≤ C) : TabB C w := by
  obtain ⟨w0, h1, h2, h3⟩ := h
  exact ⟨w0, h1, by omega, h3⟩
theorem nameRow_at (k : Nat) (hk : k < 5) : nameRow[k]? = some (.string (nameS k)) := by
  have : k = 0 ∨ k = 1 ∨ k = 2 ∨ k = 3 ∨ k = 4 := by omega
  rcases this with rfl | rfl | rfl | rfl | rfl <;> rfl
def spS : ByteArray := ⟨#[32]⟩
def lineS (k n c : Nat) : ByteArray := nameS k ++ spS ++ decS n ++ spS ++ decS c
def linesL (f : Nat → Nat × Nat) (m : Nat) : List ByteArray := (List.range m).map fun k => lineS k (f k).1 (f k).2
theorem linesL_succ (f : Nat → Nat × Nat) (m : Nat) : linesL f (m + 1) = linesL f m ++ [lineS m (f m).1 (f m).2] := by unfold linesL; rw [List.range_succ]; simp
theorem linesL_len (f : Nat → Nat × Nat) (m : Nat) : (linesL f m).length = m := by simp [linesL]
def natA (A : Nat → Int) (k : Nat) : Nat × Nat := ((A (3 + 3 * k)).toNat, (A (3 + 3 * k + 1)).toNat)
def LinesPost (p : Nat) (A : Nat → Int) (bt : Int) (w : World) (e : Ending) (w' : World) : Prop :=
  ∃ v nv, e = .returned v ∧ OwnS w' w.heap.size v (linesL (natA A) 5) ∧ Brd p w' 1 0 nv bt A ∧ NamesV w' p nv ∧ Near p w.heap.size w w'
set_option maxRecDepth 100000 in
set_option maxHeartbeats 20000000 in
theorem lines_core (p : Nat) (A : Nat → Int) (hA : ∀ i, 0 ≤ A i ∧ A i ≤ 300000) (bt : Int) (w : World) (hp : p < w.heap.size) (hT : TabB p w)
    (hdo : Calls Tryd.prog 43 #[.pointer (some ⟨p, 0, none⟩), .func (.func 44) #[.pointer (some ⟨p, 0, none⟩)] #[]] w fun e w' => e = .returned (.tuple #[]) ∧ ∃ nv, Brd p w' 1 0 nv bt A ∧ NamesV w' p nv ∧ Near p w.heap.size w w') :
    Calls Tryd.prog 22 #[.pointer (some ⟨p, 0, none⟩)] w (LinesPost p A bt w) := by
  have HDO := Lib.hid hdo
  have HT := Lib.hid hT
  clear hdo hT
  obtain ⟨i0, hi0, hz0, hz1, hz2⟩ := info_parts string_info
  have HI := Lib.hid hi0
  have HZ0 := Lib.hid hz0
  have HZ1 := Lib.hid hz1
  have HZ2 := Lib.hid hz2
  clear hi0 hz0 hz1 hz2
  go_enter Tryd.func22, Tryd.ntmps22
  go_wp2_with (first
    | (go_at_call 43; refine HDO.out.mono ?_; rintro e w1 ⟨rfl, nv, hB1, ⟨g, rfl, hgp, hg⟩, hN1⟩; have hc3 := hB1.front.2.2.2.1; have HB1 := Lib.hid hB1; have HG1 := Lib.hid hg; have HN1 := Lib.hid hN1; clear hB1 hg hN1 HDO))
  have HT1 := Lib.hid (HT.out.step (HN1.out.below hp))
  have hs1 := HN1.out.size
  clear hc3 HT
  go_loopw [3, 20] (fun out ii wr => ∃ (k : Nat), ii = .int .i64 k ∧ k ≤ 5 ∧ OwnS wr w1.heap.size out (linesL (natA A) k) ∧ Below w1.heap.size w1 wr) (fun _ ii _ => 5 - (intOf ii).toNat)
  case atStart => exact ⟨0, rfl, by omega, OwnS.nil _ _, Below.refl _ _⟩
  case round =>
    obtain ⟨k, rfl, hk, hown, hb⟩ := hrel
    have HO := Lib.hid hown
    have HB := Lib.hid hb
    clear hown hb
    by_cases hlt : k < 5
    · have q4 : decide ((k : Int) < 5) = true := decide_eq_true (by omega)
      have q5 : (k : Int) < 5 := by omega
      have hw5 : IntKind.i64.wrap ((k : Int) + 1) = (k : Int) + 1 := IntWalk.i64_in _ (by omega)
      have hgb := Lib.hid ((HB.out.block g (Array.getElem?_eq_some_iff.1 HG1.out).1).trans HG1.out)
      have hcg := (cell_of_row wr g k _ _ _ hgb.out).trans (nameRow_at k hlt)
      have HBr := Lib.hid (HB1.out.below HB1.out.lt HB.out)
      have hkn : kindA A (k : Int) = sumV (A (3 + 3 * k)) (A (3 + 3 * k + 1)) (A (3 + 3 * k + 2)) := by
        unfold kindA; rw [if_pos ⟨by omega, q5⟩, Int.toNat_natCast]
      obtain ⟨x, hx⟩ : ∃ x : Nat, A (3 + 3 * k) = x := ⟨(A (3 + 3 * k)).toNat, by have := hA (3 + 3 * k); omega⟩
      obtain ⟨y, hy⟩ : ∃ y : Nat, A (3 + 3 * k + 1) = y := ⟨(A (3 + 3 * k + 1)).toNat, by have := hA (3 + 3 * k + 1); omega⟩
      have hxb : x ≤ 4294967295 := by have := hA (3 + 3 * k); omega
      have hyb : y ≤ 4294967295 := by have := hA (3 + 3 * k + 1); omega
      have HL := Lib.hid (show linesL (natA A) (k + 1) = linesL (natA A) k ++ [lineS k x y] from by rw [linesL_succ]; unfold natA; rw [hx, hy, Int.toNat_natCast, Int.toNat_natCast])
      rw [hx, hy] at hkn
      have HTr := Lib.hid (HT1.out.step (HB.out.mono (by omega)))
      have OF := Lib.hid (of_any p (k : Int) 1 0 _ bt A wr HBr.out)
      rw [hkn] at OF
      have hns : (nameS k).size ≤ 6 := by
        have : k = 0 ∨ k = 1 ∨ k = 2 ∨ k = 3 ∨ k = 4 := by omega
        rcases this with rfl | rfl | rfl | rfl | rfl <;> decide
      have hsx := decS_size x hxb
      have hsy := decS_size y hyb
      have HLL := Lib.hid (linesL_len (natA A) k)
      clear hkn hx hy
      unfold lineS spS at HL
      have I1 := Lib.hid (fun W hW => itoa_any x hxb W hW)
      have I2 := Lib.hid (fun W hW => itoa_any y hyb W hW)
      generalize nameS k = N at hns hcg HL
      generalize decS x = X at hsx HL I1
      generalize decS y = Y at hsy HL I2
      have f1 : ¬ (9223372036854775807 < N.size + 1) := by omega
      have f2 : ¬ (9223372036854775807 < N.size + 1 + X.size) := by omega
      have f3 : ¬ (9223372036854775807 < N.size + 1 + X.size + 1) := by omega
      have f4 : ¬ (9223372036854775807 < N.size + 1 + X.size + 1 + Y.size) := by omega
      have g1 : ¬ (9223372036854775807 < N.size + (⟨#[32]⟩ : ByteArray).size) := f1
      have g2 : ¬ (9223372036854775807 < (N ++ ⟨#[32]⟩).size + X.size) := by rw [ByteArray.size_append]; exact f2
      have g3 : ¬ (9223372036854775807 < (N ++ ⟨#[32]⟩ ++ X).size + (⟨#[32]⟩ : ByteArray).size) := by rw [ByteArray.size_append, ByteArray.size_append]; exact f3
      have g4 : ¬ (9223372036854775807 < (N ++ ⟨#[32]⟩ ++ X ++ ⟨#[32]⟩).size + Y.size) := by rw [ByteArray.size_append, ByteArray.size_append, ByteArray.size_append]; exact f4
      have HONE := Lib.hid (show ∀ s : ByteArray, ∀ u ∈ [Value.string s], u.oneCell' = true from fun s u hu => by simp at hu; subst hu; rfl)
      go_wp2_with (first
        | (go_at_call 13; refine OF.out.mono ?_; rintro e w2 ⟨rfl, hb2⟩; unfold sumV; have HB2 := Lib.hid hb2; clear hb2))
      have hb3 := HB2.out.alloc HB2.out.size (.cells #[.int .i64 x, .int .i64 y, .int .i64 (A (3 + 3 * k + 2))] 36)
      have hrow3 := heap_alloc_new w2 (.cells #[.int .i64 x, .int .i64 y, .int .i64 (A (3 + 3 * k + 2))] 36)
      have hb2w : wr.heap.size ≤ w2.heap.size := HB2.out.size
      generalize hbb : w2.heap.size = b2 at hrow3 hb2w ⊢
      generalize w2.alloc (.cells #[.int .i64 x, .int .i64 y, .int .i64 (A (3 + 3 * k + 2))] 36) = w3 at hb3 hrow3 ⊢
      have HC := Lib.hid (show ∀ W : World, W.heap[b2]? = w3.heap[b2]? → W.cell? ⟨b2, 0, none⟩ = some (.int .i64 x) ∧ W.cell? ⟨b2, 1, none⟩ = some (.int .i64 y) from fun W hW => ⟨(res3 (hW.trans hrow3)).1.1, (res3 (hW.trans hrow3)).1.2.1⟩)
      have hlt3 : b2 < w3.heap.size := (Array.getElem?_eq_some_iff.1 hrow3).1
      have HO3 := Lib.hid (HO.out.below hb3)
      have HB3 := Lib.hid (HB.out.trans (hb3.mono HB.out.size))
      have hs13 : w1.heap.size ≤ w3.heap.size := HB3.out.size
      have HTB := Lib.hid (show ∀ W : World, Below w3.heap.size w3 W → Tab W from fun W hW => ((HTr.out.step (hb3.mono (by have := HB.out.size; have := HB1.out.lt; omega))).step (hW.mono (by have := HB.out.size; have := HB1.out.lt; omega))).tab)
      have HROW := Lib.hid (show ∀ q, u3.ownBlock = some q → w1.heap.size ≤ q ∧ q < wr.heap.size from fun q hq => World.ownsRow.lt HO.out q hq)
      have HBN := (Below.refl w3.heap.size w3).drew
      clear hb3 hrow3 hbb
      go_region_held3 (fun W => W.cell? ⟨b2, 0, none⟩ = some (.int .i64 x) ∧ W.cell? ⟨b2, 1, none⟩ = some (.int .i64 y)) (first | exact HS5 | exact HC.out _ (HBN.block b2 hlt3) | exact HC.out _ ((HBN.alloc HBN.size _).block b2 hlt3)) (first
        | (go_at_call 45; first
            | (refine (I1.out _ (HTB.out _ HBN)).mono ?_; rintro e w4 ⟨rfl, hb⟩; have HBN := HBN.trans (hb.mono HBN.size); clear hb)
            | (refine (I2.out _ (HTB.out _ HBN)).mono ?_; rintro e w4 ⟨rfl, hb⟩; have HBN := HBN.trans (hb.mono HBN.size); clear hb))
        | (refine step_append_lies _ (by rfl) _ _ _ (by rfl) w1.heap.size 9 i0 _ 1 16 Tryd.underlying47 HI.out HZ0.out HZ1.out HZ2.out rfl (by decide) u3 _ _ (by rfl) (World.ownsRow.alloc (HO3.out.below HBN) _) ⟨w4.heap.size, 0, none⟩ 1 1 [Value.string (N ++ ⟨#[32]⟩ ++ X ++ ⟨#[32]⟩ ++ Y)] (by rfl) rfl (cells_new _ [Value.string (N ++ ⟨#[32]⟩ ++ X ++ ⟨#[32]⟩ ++ Y)] _) (HONE.out _) (by decide) (by rw [HLL.out]; unfold maxLen; omega) (by rw [HLL.out]; omega) (by have := HBN.size; simp; omega) (w4.heap.size + 1) (by simp) ?_; intro gg cap w5 hown hgrow hat hlt5; have HO5 := OwnS.snoc hown; have HB5 := ((HB3.out.trans (HBN.mono hs13)).alloc (Nat.le_trans hs13 HBN.size) _).grown hgrow (by have := HBN.size; simp; omega) (fun q hq => (HROW.out q hq).1); have HS5 := HC.out w5 ((hgrow.block b2 (by have := HBN.size; simp; omega) (by intro e; have := (HROW.out b2 e.symm).2; omega)).trans ((HBN.alloc HBN.size _).block b2 hlt3))))
      all_goals (
        go_wp2_with fail
        refine ⟨⟨k + 1, rfl, hlt, by rw [HL.out]; exact HO5, HB5⟩, ?_⟩
        simp [intOf]
        omega)
    · have q4 : decide ((k : Int) < 5) = false := decide_eq_false (by omega)
      have q5 : ¬ (k : Int) < 5 := by omega
      obtain rfl : k = 5 := by omega
      go_wp2_with fail
      go_ret
      refine ⟨_, _, rfl, HO.out.mono HN1.out.size, HB1.out.below HB1.out.lt HB.out, ⟨g, rfl, hgp, (HB.out.block g (Array.getElem?_eq_some_iff.1 HG1.out).1).trans HG1.out⟩, HN1.out.trans ((Near.of HB.out).mono hs1)⟩
theorem lines_first (p : Nat) (A : Nat → Int) (hA : ∀ i, 0 ≤ A i ∧ A i ≤ 300000) (nv : Value) (bt : Int) (hbt : 0 ≤ bt ∧ bt < 1000) (w : World) (hT : TabB p w) (h : Brd p w 0 0 nv bt A) :
    Calls Tryd.prog 22 #[.pointer (some ⟨p, 0, none⟩)] w (LinesPost p A (bt + 1) w) :=
  lines_core p A hA (bt + 1) w h.lt hT ((do_first p bt hbt nv A w h).mono fun _ _ h => h)
theorem lines_again (p : Nat) (A : Nat → Int) (hA : ∀ i, 0 ≤ A i ∧ A i ≤ 300000) (nv : Value) (bt : Int) (w : World) (hT : TabB p w) (h : Brd p w 1 0 nv bt A) (hn : NamesV w p nv) :
    Calls Tryd.prog 22 #[.pointer (some ⟨p, 0, none⟩)] w (LinesPost p A bt w) :=
  lines_core p A hA bt w h.lt hT ((do_done p bt nv _ A w h).mono fun _ _ ⟨e1, e2⟩ => by subst e2; exact ⟨e1, nv, h, hn, Near.refl _ _ _⟩)
#print axioms lines_again
end Go.Proofs.YtbpcknjobbjmpaaDoor
