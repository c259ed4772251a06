/- The board is made; its sizes are told. -/
import Derived.Test.YtbpcknjobbjmpaaDoorStaE
import Derived.Lib.SliceRun
namespace Go.Proofs.YtbpcknjobbjmpaaDoor
open Go.RowKit
set_option linter.unusedVariables false
set_option linter.unusedSimpArgs false

def A0 : Nat → Int := fun _ => 0
theorem cellA_nil (i : Nat) : cellA [] i = 0 := by
  unfold cellA tal hst Tal.at
  simp
set_option maxRecDepth 100000 in
theorem new_any (w : World) : Calls Tryd.prog 9 #[] w fun e w' => e = .returned (.pointer (some ⟨w.heap.size, 0, none⟩)) ∧ Brd w.heap.size w' 0 0 (.slice none 0 0) 0 A0 ∧ Below w.heap.size w w' := by
  go_enter Tryd.func9, Tryd.ntmps9
  go_wp2_with fail
  go_ret
  refine ⟨rfl, ?_, (Below.refl _ _).alloc (Nat.le_refl _) _⟩
  unfold Brd
  rw [heap_alloc_new]
  kernel_rfl
theorem hist_none (w : World) : Calls Tryd.prog 17 #[.pointer none] w fun e w' => e = .returned (.slice none 0 0) ∧ w' = w := by
  go_enter Tryd.func17, Tryd.ntmps17
  go_wp2
  go_ret
  exact ⟨rfl, rfl⟩
theorem lines_none (w : World) : Calls Tryd.prog 22 #[.pointer none] w fun e w' => e = .returned (.slice none 0 0) ∧ w' = w := by
  go_enter Tryd.func22, Tryd.ntmps22
  go_wp2
  go_ret
  exact ⟨rfl, rfl⟩
theorem int_info : (Tryd.prog.info? 3).map (fun i => (i.zero, i.size, i.bytes)) = some (some (.int .i64 0), 1, 8) := by kernel_rfl
/-- Twelve numbers in memory of one's own. -/
def Twelve (W : World) (B : Nat) (v : Value) (H : Nat → Int) : Prop := ∃ g, v = .slice (some ⟨g, 0, none⟩) 12 12 ∧ W.heap[g]? = some (.cells (nrow 12 H) 3 (0, 0)) ∧ B ≤ g
theorem Twelve.below {W W' : World} {B : Nat} {v : Value} {H : Nat → Int} (h : Twelve W B v H) (hb : Below W.heap.size W W') : Twelve W' B v H := by
  obtain ⟨g, e, hr, hB⟩ := h
  exact ⟨g, e, (hb.block g (Array.getElem?_eq_some_iff.1 hr).1).trans hr, hB⟩
def HistPost (A : Nat → Int) (w : World) (e : Ending) (w' : World) : Prop := ∃ v, e = .returned v ∧ Twelve w' w.heap.size v (fun j => A (18 + j)) ∧ Below w.heap.size w w'
set_option maxRecDepth 100000 in
set_option maxHeartbeats 4000000 in
theorem hist_any (p : Nat) (d m : Int) (nv : Value) (bt : Int) (A : Nat → Int) (w : World) (h : Brd p w d m nv bt A) :
    Calls Tryd.prog 17 #[.pointer (some ⟨p, 0, none⟩)] w (HistPost A w) := by
  have hplt := h.lt
  obtain ⟨i0, hi0, hz0, hz1, hz2⟩ := info_parts int_info
  have hmk := run_make (P := Tryd.prog) w 41 3 i0 _ Tryd.underlying41 hi0 hz0 .i64 .i64 12 12 (by omega) (Int.le_refl _) (by rw [hz2]; decide) (by decide)
  rw [hz1] at hmk
  have har : madeCells (Value.int IntKind.i64 0).cells (Int.toNat 12 * 1) = nrow 12 (fun _ => 0) := by kernel_rfl
  rw [har] at hmk
  have t12 : Int.toNat 12 = 12 := rfl
  rw [t12] at hmk
  clear har hi0 hz0 hz1 hz2
  have HR0 := Lib.hid (show (w.alloc (.cells (nrow 12 (fun _ => 0)) 3)).heap[w.heap.size]? = some (.cells (nrow 12 (fun _ => 0)) 3 (0, 0)) from heap_alloc_new w _)
  have HB0 := Lib.hid ((Below.refl w.heap.size w).alloc (Nat.le_refl _) (.cells (nrow 12 (fun _ => 0)) 3))
  have HB := Lib.hid h
  clear h
  go_enter Tryd.func17, Tryd.ntmps17
  go_wp2_with fail
  generalize hg0 : w.heap.size = g at HR0 ⊢
  generalize w.alloc (.cells (nrow 12 (fun _ => 0)) 3) = w1 at HR0 HB0 ⊢
  have HG := Lib.hid hg0
  clear hmk hg0
  go_loopw [10] (fun ii wr => ∃ k : Nat, ii = .int .i64 k ∧ k ≤ 12 ∧ wr.heap[g]? = some (.cells (nrow 12 (fun j => if j < k then A (18 + j) else 0)) 3 (0, 0)) ∧ Below w.heap.size w wr) (fun ii _ => 12 - (intOf ii).toNat)
  case atStart => exact ⟨0, rfl, by omega, by simpa using HR0.out, HB0.out⟩
  case round =>
    obtain ⟨k, rfl, hk, hrow, hb⟩ := hrel
    have HRW := Lib.hid hrow
    have HBW := Lib.hid hb
    clear hrow hb
    by_cases hlt : k < 12
    · have q4 : decide ((k : Int) < 12) = true := decide_eq_true (by omega)
      have q5 : (k : Int) < 12 := by omega
      have hw5 : IntKind.i64.wrap ((k : Int) + 1) = (k : Int) + 1 := IntWalk.i64_in _ (by omega)
      have hcell := (HB.out.below hplt HBW.out).cell (18 + k) (by omega)
      rw [show 5 + (18 + k) = 23 + k by omega] at hcell
      have HC := Lib.hid hcell
      have hc := (cell_of_row wr g k _ _ _ HRW.out).trans (nrow_at 12 _ k hlt)
      have hz := frozen_of_row wr g k _ _ HRW.out
      have hrn := heap_setCell_same wr g k _ _ (.int .i64 (A (18 + k))) HRW.out
      rw [nrow_set] at hrn
      rw [nrow_cong 12 (A' := fun j => if j < k + 1 then A (18 + j) else 0) (fun j _ => by
        unfold upd
        by_cases e : j = k
        · subst e; simp
        · rw [if_neg e]; dsimp only; by_cases e2 : j < k
          · rw [if_pos e2, if_pos (by omega)]
          · rw [if_neg e2, if_neg (by omega)])] at hrn
      have HRN := Lib.hid hrn
      have HBN := Lib.hid (HBW.out.setCell (show w.heap.size ≤ (⟨g, k, none⟩ : Addr).block from Nat.le_of_eq HG.out) (.int .i64 (A (18 + k))))
      clear hrn hcell
      go_wp2_with (first
        | (go_at_call 38; refine (i64_load _ (A (18 + k)) _ HC.out).mono ?_; rintro e w' ⟨rfl, rfl⟩))
      refine ⟨⟨k + 1, rfl, hlt, HRN.out, HBN.out⟩, ?_⟩
      simp [intOf]
      omega
    · have q4 : decide ((k : Int) < 12) = false := decide_eq_false (by omega)
      have q5 : ¬ (k : Int) < 12 := by omega
      obtain rfl : k = 12 := by omega
      go_wp2_with fail
      go_ret
      refine ⟨_, rfl, ⟨g, rfl, ?_, Nat.le_of_eq HG.out⟩, HBW.out⟩
      rw [HRW.out, nrow_cong 12 (fun j hj => if_pos hj)]
end Go.Proofs.YtbpcknjobbjmpaaDoor
